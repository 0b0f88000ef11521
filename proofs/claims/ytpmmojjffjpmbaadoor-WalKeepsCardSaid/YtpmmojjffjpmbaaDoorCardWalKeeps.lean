/- What this text proves: the tied card of the statement WalKeeps. No condition. -/
import Derived.Test.YtpmmojjffjpmbaaDoorRowWalKeeps
import Derived.Test.YtpmmojjffjpmbaaDoorCards
import Derived.Test.YtpmmojjffjpmbaaDoorTie
import Derived.SevenTiedAt
namespace Go.Proofs.YtpmmojjffjpmbaaDoor.walKeeps
open Go

/-- The statement. -/
theorem proved : Rows.WalKeepsCardSaid :=
  Claim7.holds_tied_plain_at .later [] [.data] true (true, "a8197f1f49eb90e2289a055cf51cf0291e0438b115ba92de49706e8741eafbcc") false
    over (fun _ h => by cases h) (by kernel_rfl) (fun _ h => by cases h) walKeeps_row_tie rfl ⟨rfl, rfl⟩ (by kernel_rfl) rfl
    (fun f fn hf hfn => by
      obtain rfl : f = 7 := Option.some.inj ((show Tryd.prog.funcNamed "nuncio/nunciolaw11.WalKeeps" = some 7 by kernel_rfl).symm.trans hf) |>.symm
      obtain rfl : fn = Tryd.f7 := (Option.some.inj (Tryd.func7.symm.trans hfn)).symm
      exact ⟨by kernel_rfl, fun j t ht => by
        rw [Tryd.params7] at ht
        have hm : t ∈ [41, 43, 22] := by simpa using Array.mem_of_getElem? ht
        have hall : ([41, 43, 22].all fun u => !Tryd.prog.wantsStandIn u) = true := by kernel_rfl
        exact (show Tryd.prog.wantsStandIn t = false by simpa using List.all_eq_true.1 hall t hm)⟩)
    (by kernel_rfl)
#print axioms proved
end Go.Proofs.YtpmmojjffjpmbaaDoor.walKeeps

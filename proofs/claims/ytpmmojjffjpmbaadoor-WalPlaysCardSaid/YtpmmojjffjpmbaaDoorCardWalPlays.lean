/- What this text proves: the tied card of the statement WalPlays. No condition. -/
import Derived.Test.YtpmmojjffjpmbaaDoorRowWalPlays
import Derived.Test.YtpmmojjffjpmbaaDoorCards
import Derived.Test.YtpmmojjffjpmbaaDoorTie
import Derived.SevenTiedAt
namespace Go.Proofs.YtpmmojjffjpmbaaDoor.walPlays
open Go

/-- The statement. -/
theorem proved : Rows.WalPlaysCardSaid :=
  Claim7.holds_tied_plain_at .later [] [.data] true (true, "a8197f1f49eb90e2289a055cf51cf0291e0438b115ba92de49706e8741eafbcc") false
    over (fun _ h => by cases h) (by kernel_rfl) (fun _ h => by cases h) walPlays_row_tie rfl ⟨rfl, rfl⟩ (by kernel_rfl) rfl
    (fun f fn hf hfn => by
      obtain rfl : f = 6 := Option.some.inj ((show Tryd.prog.funcNamed "nuncio/nunciolaw11.WalPlays" = some 6 by kernel_rfl).symm.trans hf) |>.symm
      obtain rfl : fn = Tryd.f6 := (Option.some.inj (Tryd.func6.symm.trans hfn)).symm
      exact ⟨by kernel_rfl, fun j t ht => by
        rw [Tryd.params6] at ht
        have hm : t ∈ [41] := by simpa using Array.mem_of_getElem? ht
        have hall : ([41].all fun u => !Tryd.prog.wantsStandIn u) = true := by kernel_rfl
        exact (show Tryd.prog.wantsStandIn t = false by simpa using List.all_eq_true.1 hall t hm)⟩)
    (by kernel_rfl)
#print axioms proved
end Go.Proofs.YtpmmojjffjpmbaaDoor.walPlays

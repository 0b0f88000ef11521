/- What this text proves: the tied card of the statement RoundLocks. No condition. -/
import Derived.Test.YtlhnhdkbfkbafaaDoorRowLocks
import Derived.Test.YtlhnhdkbfkbafaaDoorCards
import Derived.Test.YtlhnhdkbfkbafaaDoorTie
import Derived.SevenTiedAt
namespace Go.Proofs.YtlhnhdkbfkbafaaDoor.roundLocks
open Go

/-- The statement. -/
theorem proved : Rows.RoundLocksCardSaid :=
  Claim7.holds_tied_plain_at .later [] [.data] true (true, "21e1c6ea9c09aad257294c477738edf47c42d739e41b2667386ed481442c2071") false
    over (fun _ h => by cases h) (by kernel_rfl) (fun _ h => by cases h) roundLocks_row_tie rfl ⟨rfl, rfl⟩ (by kernel_rfl) rfl
    (fun f fn hf hfn => by
      obtain rfl : f = 5 := Option.some.inj ((show Tryd.prog.funcNamed "nuncio/nunciolaw12.RoundLocks" = some 5 by kernel_rfl).symm.trans hf) |>.symm
      obtain rfl : fn = Tryd.f5 := (Option.some.inj (Tryd.func5.symm.trans hfn)).symm
      exact ⟨by kernel_rfl, fun j t ht => by
        rw [Tryd.params5] at ht
        have hm : t ∈ [42] := by simpa using Array.mem_of_getElem? ht
        have hall : ([42].all fun u => !Tryd.prog.wantsStandIn u) = true := by kernel_rfl
        exact (show Tryd.prog.wantsStandIn t = false by simpa using List.all_eq_true.1 hall t hm)⟩)
    (by kernel_rfl)
#print axioms proved
end Go.Proofs.YtlhnhdkbfkbafaaDoor.roundLocks

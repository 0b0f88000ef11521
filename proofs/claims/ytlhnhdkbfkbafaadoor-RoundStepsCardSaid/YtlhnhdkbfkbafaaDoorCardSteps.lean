/- What this text proves: the tied card of the statement RoundSteps. No condition. -/
import Derived.Test.YtlhnhdkbfkbafaaDoorRowSteps
import Derived.Test.YtlhnhdkbfkbafaaDoorCards
import Derived.Test.YtlhnhdkbfkbafaaDoorTie
import Derived.SevenTiedAt
namespace Go.Proofs.YtlhnhdkbfkbafaaDoor.roundSteps
open Go

/-- The statement. -/
theorem proved : Rows.RoundStepsCardSaid :=
  Claim7.holds_tied_plain_at .later [] [.data] true (true, "21e1c6ea9c09aad257294c477738edf47c42d739e41b2667386ed481442c2071") false
    over (fun _ h => by cases h) (by kernel_rfl) (fun _ h => by cases h) roundSteps_row_tie rfl ⟨rfl, rfl⟩ (by kernel_rfl) rfl
    (fun f fn hf hfn => by
      obtain rfl : f = 3 := Option.some.inj ((show Tryd.prog.funcNamed "nuncio/nunciolaw12.RoundSteps" = some 3 by kernel_rfl).symm.trans hf) |>.symm
      obtain rfl : fn = Tryd.f3 := (Option.some.inj (Tryd.func3.symm.trans hfn)).symm
      exact ⟨by kernel_rfl, fun j t ht => by
        rw [Tryd.params3] at ht
        have hm : t ∈ [25, 27] := by simpa using Array.mem_of_getElem? ht
        have hall : ([25, 27].all fun u => !Tryd.prog.wantsStandIn u) = true := by kernel_rfl
        exact (show Tryd.prog.wantsStandIn t = false by simpa using List.all_eq_true.1 hall t hm)⟩)
    (by kernel_rfl)
#print axioms proved
end Go.Proofs.YtlhnhdkbfkbafaaDoor.roundSteps

/- What this text proves: the tied card of the statement SchnorrShift. No condition. -/
import Derived.Test.YtcnmoallgfdomaaDoorRowShift
import Derived.Test.YtcnmoallgfdomaaDoorCards
import Derived.Test.YtcnmoallgfdomaaDoorTie
import Derived.SevenTiedAt
namespace Go.Proofs.YtcnmoallgfdomaaDoor.schnorrShift
open Go

/-- The statement. -/
theorem proved : Rows.SchnorrShiftCardSaid :=
  Claim7.holds_tied_plain_at .later [] [.data] true (true, "b6c930e374ea3e7bd4bca48b4eeec1eac4c94d240d5bf3e10dc320e2464805aa") false
    over (fun _ h => by cases h) (by kernel_rfl) (fun _ h => by cases h) schnorrShift_row_tie rfl ⟨rfl, rfl⟩ (by kernel_rfl) rfl
    (fun f fn hf hfn => by
      obtain rfl : f = 6 := Option.some.inj ((show Tryd.prog.funcNamed "nuncio/nunciolaw04.SchnorrShift" = some 6 by kernel_rfl).symm.trans hf) |>.symm
      obtain rfl : fn = Tryd.f6 := (Option.some.inj (Tryd.func6.symm.trans hfn)).symm
      exact ⟨by kernel_rfl, fun j t ht => by
        rw [Tryd.params6] at ht
        have hm : t ∈ [22, 23] := by simpa using Array.mem_of_getElem? ht
        have hall : ([22, 23].all fun u => !Tryd.prog.wantsStandIn u) = true := by kernel_rfl
        exact (show Tryd.prog.wantsStandIn t = false by simpa using List.all_eq_true.1 hall t hm)⟩)
    (by kernel_rfl)
#print axioms proved
end Go.Proofs.YtcnmoallgfdomaaDoor.schnorrShift

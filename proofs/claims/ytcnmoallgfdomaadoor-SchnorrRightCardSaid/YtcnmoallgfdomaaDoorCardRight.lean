/- What this text proves: the tied card of the statement SchnorrRight. No condition. -/
import Derived.Test.YtcnmoallgfdomaaDoorRowRight
import Derived.Test.YtcnmoallgfdomaaDoorCards
import Derived.Test.YtcnmoallgfdomaaDoorTie
import Derived.SevenTiedAt
namespace Go.Proofs.YtcnmoallgfdomaaDoor.schnorrRight
open Go

/-- The statement. -/
theorem proved : Rows.SchnorrRightCardSaid :=
  Claim7.holds_tied_plain_at .later [] [.data] true (true, "b6c930e374ea3e7bd4bca48b4eeec1eac4c94d240d5bf3e10dc320e2464805aa") false
    over (fun _ h => by cases h) (by kernel_rfl) (fun _ h => by cases h) schnorrRight_row_tie rfl ⟨rfl, rfl⟩ (by kernel_rfl) rfl
    (fun f fn hf hfn => by
      obtain rfl : f = 5 := Option.some.inj ((show Tryd.prog.funcNamed "nuncio/nunciolaw04.SchnorrRight" = some 5 by kernel_rfl).symm.trans hf) |>.symm
      obtain rfl : fn = Tryd.f5 := (Option.some.inj (Tryd.func5.symm.trans hfn)).symm
      exact ⟨by kernel_rfl, fun j t ht => by
        rw [Tryd.params5] at ht
        have hm : t ∈ [22, 23] := by simpa using Array.mem_of_getElem? ht
        have hall : ([22, 23].all fun u => !Tryd.prog.wantsStandIn u) = true := by kernel_rfl
        exact (show Tryd.prog.wantsStandIn t = false by simpa using List.all_eq_true.1 hall t hm)⟩)
    (by kernel_rfl)
#print axioms proved
end Go.Proofs.YtcnmoallgfdomaaDoor.schnorrRight

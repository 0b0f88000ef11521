/- What this text proves: the tied card of the statement ValsetSets. No condition. -/
import Derived.Test.YthbkcjjpdhdidaaDoorRowSets
import Derived.Test.YthbkcjjpdhdidaaDoorCards
import Derived.Test.YthbkcjjpdhdidaaDoorTie
import Derived.SevenTiedAt
namespace Go.Proofs.YthbkcjjpdhdidaaDoor.valsetSets
open Go

/-- The statement. -/
theorem proved : Rows.ValsetSetsCardSaid :=
  Claim7.holds_tied_plain_at .later [] [.data, .sentinel] true (true, "73a324c5753deab8874f800d7ba3089a79b096fe37046c2b11a95e965d333143") true
    over (fun _ h => by cases h) (by kernel_rfl) (fun _ h => by cases h) valsetSets_row_tie rfl ⟨rfl, rfl⟩ (by kernel_rfl) rfl
    (fun f fn hf hfn => by
      obtain rfl : f = 3 := Option.some.inj ((show Tryd.prog.funcNamed "nuncio/nunciolaw07.ValsetSets" = some 3 by kernel_rfl).symm.trans hf) |>.symm
      obtain rfl : fn = Tryd.f3 := (Option.some.inj (Tryd.func3.symm.trans hfn)).symm
      exact ⟨by kernel_rfl, fun j t ht => by
        rw [Tryd.params3] at ht
        have hm : t ∈ [22, 23] := by simpa using Array.mem_of_getElem? ht
        have hall : ([22, 23].all fun u => !Tryd.prog.wantsStandIn u) = true := by kernel_rfl
        exact (show Tryd.prog.wantsStandIn t = false by simpa using List.all_eq_true.1 hall t hm)⟩)
    (by kernel_rfl)
#print axioms proved
end Go.Proofs.YthbkcjjpdhdidaaDoor.valsetSets

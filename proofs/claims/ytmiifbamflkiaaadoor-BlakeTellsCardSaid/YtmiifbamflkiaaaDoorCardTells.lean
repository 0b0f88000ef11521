/- What this text proves: the tied card of the statement BlakeTells. No condition. -/
import Derived.Test.YtmiifbamflkiaaaDoorRowTells
import Derived.Test.YtmiifbamflkiaaaDoorCards
import Derived.Test.YtmiifbamflkiaaaDoorTie
import Derived.SevenTiedAt
namespace Go.Proofs.YtmiifbamflkiaaaDoor.blakeTells
open Go

/-- The statement. -/
theorem proved : Rows.BlakeTellsCardSaid :=
  Claim7.holds_tied_plain_at .later [] [.data] true (true, "8678e90eacb5c6dbde01174dc4ce6ac8d7b1db47a5ade3639081fea64be77602") false
    over (fun _ h => by cases h) (by kernel_rfl) (fun _ h => by cases h) blakeTells_row_tie rfl ⟨rfl, rfl⟩ (by kernel_rfl) rfl
    (fun f fn hf hfn => by
      obtain rfl : f = 6 := Option.some.inj ((show Tryd.prog.funcNamed "nuncio/nunciolaw03.BlakeTells" = some 6 by kernel_rfl).symm.trans hf) |>.symm
      obtain rfl : fn = Tryd.f6 := (Option.some.inj (Tryd.func6.symm.trans hfn)).symm
      exact ⟨by kernel_rfl, fun j t ht => by
        rw [Tryd.params6] at ht
        have hm : t ∈ [5, 35, 25] := by simpa using Array.mem_of_getElem? ht
        have hall : ([5, 35, 25].all fun u => !Tryd.prog.wantsStandIn u) = true := by kernel_rfl
        exact (show Tryd.prog.wantsStandIn t = false by simpa using List.all_eq_true.1 hall t hm)⟩)
    (by kernel_rfl)
#print axioms proved
end Go.Proofs.YtmiifbamflkiaaaDoor.blakeTells

/- What this text proves: the tied card of the statement BlakeSums. No condition. -/
import Derived.Test.YtmiifbamflkiaaaDoorRowSums
import Derived.Test.YtmiifbamflkiaaaDoorCards
import Derived.Test.YtmiifbamflkiaaaDoorTie
import Derived.SevenTiedAt
namespace Go.Proofs.YtmiifbamflkiaaaDoor.blakeSums
open Go

/-- The statement. -/
theorem proved : Rows.BlakeSumsCardSaid :=
  Claim7.holds_tied_plain_at .later [] [.data] true (true, "8678e90eacb5c6dbde01174dc4ce6ac8d7b1db47a5ade3639081fea64be77602") false
    over (fun _ h => by cases h) (by kernel_rfl) (fun _ h => by cases h) blakeSums_row_tie rfl ⟨rfl, rfl⟩ (by kernel_rfl) rfl
    (fun f fn hf hfn => by
      obtain rfl : f = 3 := Option.some.inj ((show Tryd.prog.funcNamed "nuncio/nunciolaw03.BlakeSums" = some 3 by kernel_rfl).symm.trans hf) |>.symm
      obtain rfl : fn = Tryd.f3 := (Option.some.inj (Tryd.func3.symm.trans hfn)).symm
      exact ⟨by kernel_rfl, fun j t ht => by
        rw [Tryd.params3] at ht
        have hm : t ∈ [22] := by simpa using Array.mem_of_getElem? ht
        have hall : ([22].all fun u => !Tryd.prog.wantsStandIn u) = true := by kernel_rfl
        exact (show Tryd.prog.wantsStandIn t = false by simpa using List.all_eq_true.1 hall t hm)⟩)
    (by kernel_rfl)
#print axioms proved
end Go.Proofs.YtmiifbamflkiaaaDoor.blakeSums

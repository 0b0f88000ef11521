/- What this text proves: the tied card of the statement BlakePieces. No condition. -/
import Derived.Test.YtmiifbamflkiaaaDoorRowPieces
import Derived.Test.YtmiifbamflkiaaaDoorCards
import Derived.Test.YtmiifbamflkiaaaDoorTie
import Derived.SevenTiedAt
namespace Go.Proofs.YtmiifbamflkiaaaDoor.blakePieces
open Go

/-- The statement. -/
theorem proved : Rows.BlakePiecesCardSaid :=
  Claim7.holds_tied_plain_at .later [] [.data] true (true, "8678e90eacb5c6dbde01174dc4ce6ac8d7b1db47a5ade3639081fea64be77602") false
    over (fun _ h => by cases h) (by kernel_rfl) (fun _ h => by cases h) blakePieces_row_tie rfl ⟨rfl, rfl⟩ (by kernel_rfl) rfl
    (fun f fn hf hfn => by
      obtain rfl : f = 4 := Option.some.inj ((show Tryd.prog.funcNamed "nuncio/nunciolaw03.BlakePieces" = some 4 by kernel_rfl).symm.trans hf) |>.symm
      obtain rfl : fn = Tryd.f4 := (Option.some.inj (Tryd.func4.symm.trans hfn)).symm
      exact ⟨by kernel_rfl, fun j t ht => by
        rw [Tryd.params4] at ht
        have hm : t ∈ [29] := by simpa using Array.mem_of_getElem? ht
        have hall : ([29].all fun u => !Tryd.prog.wantsStandIn u) = true := by kernel_rfl
        exact (show Tryd.prog.wantsStandIn t = false by simpa using List.all_eq_true.1 hall t hm)⟩)
    (by kernel_rfl)
#print axioms proved
end Go.Proofs.YtmiifbamflkiaaaDoor.blakePieces

/- What this text proves: the tied card of the statement MerkleChecks. No condition. -/
import Derived.Test.YtdeikpifflkabaaDoorRowMerChecks
import Derived.Test.YtdeikpifflkabaaDoorCards
import Derived.Test.YtdeikpifflkabaaDoorTie
import Derived.SevenTiedAt
namespace Go.Proofs.YtdeikpifflkabaaDoor.merkleChecks
open Go

/-- The statement. -/
theorem proved : Rows.MerkleChecksCardSaid :=
  Claim7.holds_tied_plain_at .later [] [.data] true (true, "4a88396c1b95064cd1a3dfb5c2f8564353ae8528d55e68293d27f531f17dab18") false
    over (fun _ h => by cases h) (by kernel_rfl) (fun _ h => by cases h) merkleChecks_row_tie rfl ⟨rfl, rfl⟩ (by kernel_rfl) rfl
    (fun f fn hf hfn => by
      obtain rfl : f = 4 := Option.some.inj ((show Tryd.prog.funcNamed "nuncio/nunciolaw05.MerkleChecks" = some 4 by kernel_rfl).symm.trans hf) |>.symm
      obtain rfl : fn = Tryd.f4 := (Option.some.inj (Tryd.func4.symm.trans hfn)).symm
      exact ⟨by kernel_rfl, fun j t ht => by
        rw [Tryd.params4] at ht
        have hm : t ∈ [26, 9, 38] := by simpa using Array.mem_of_getElem? ht
        have hall : ([26, 9, 38].all fun u => !Tryd.prog.wantsStandIn u) = true := by kernel_rfl
        exact (show Tryd.prog.wantsStandIn t = false by simpa using List.all_eq_true.1 hall t hm)⟩)
    (by kernel_rfl)
#print axioms proved
end Go.Proofs.YtdeikpifflkabaaDoor.merkleChecks

/- What this text proves: the tied card of the statement MerkleBent. No condition. -/
import Derived.Test.YtdeikpifflkabaaDoorRowMerBent
import Derived.Test.YtdeikpifflkabaaDoorCards
import Derived.Test.YtdeikpifflkabaaDoorTie
import Derived.SevenTiedAt
namespace Go.Proofs.YtdeikpifflkabaaDoor.merkleBent
open Go

/-- The statement. -/
theorem proved : Rows.MerkleBentCardSaid :=
  Claim7.holds_tied_plain_at .later [] [.data] true (true, "4a88396c1b95064cd1a3dfb5c2f8564353ae8528d55e68293d27f531f17dab18") false
    over (fun _ h => by cases h) (by kernel_rfl) (fun _ h => by cases h) merkleBent_row_tie rfl ⟨rfl, rfl⟩ (by kernel_rfl) rfl
    (fun f fn hf hfn => by
      obtain rfl : f = 8 := Option.some.inj ((show Tryd.prog.funcNamed "nuncio/nunciolaw05.MerkleBent" = some 8 by kernel_rfl).symm.trans hf) |>.symm
      obtain rfl : fn = Tryd.f8 := (Option.some.inj (Tryd.func8.symm.trans hfn)).symm
      exact ⟨by kernel_rfl, fun j t ht => by
        rw [Tryd.params8] at ht
        have hm : t ∈ [22, 9, 41] := by simpa using Array.mem_of_getElem? ht
        have hall : ([22, 9, 41].all fun u => !Tryd.prog.wantsStandIn u) = true := by kernel_rfl
        exact (show Tryd.prog.wantsStandIn t = false by simpa using List.all_eq_true.1 hall t hm)⟩)
    (by kernel_rfl)
#print axioms proved
end Go.Proofs.YtdeikpifflkabaaDoor.merkleBent

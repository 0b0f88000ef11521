/- What this text proves: the tied card of the statement WireNil. No condition. -/
import Derived.Test.YtclnpglnomfjkaaDoorRowNil
import Derived.Test.YtclnpglnomfjkaaDoorCards
import Derived.Test.YtclnpglnomfjkaaDoorTie
import Derived.SevenTiedAt
namespace Go.Proofs.YtclnpglnomfjkaaDoor.wireNil
open Go

/-- The statement. -/
theorem proved : Rows.WireNilCardSaid :=
  Claim7.holds_tied_plain_at .later [] [.sentinel] true (true, "f81773f4af3bbbca76792de2a18a0a4767a6d9d66ab836132b563224e0e21d64") true
    over (fun _ h => by cases h) (by kernel_rfl) (fun _ h => by cases h) wireNil_row_tie rfl ⟨rfl, rfl⟩ (by kernel_rfl) rfl
    (fun f fn hf hfn => by
      obtain rfl : f = 8 := Option.some.inj ((show Tryd.prog.funcNamed "nuncio/nunciolaw02.WireNil" = some 8 by kernel_rfl).symm.trans hf) |>.symm
      obtain rfl : fn = Tryd.f8 := (Option.some.inj (Tryd.func8.symm.trans hfn)).symm
      exact ⟨by kernel_rfl, fun j t ht => by
        rw [Tryd.params8] at ht
        have hm : t ∈ [31] := by simpa using Array.mem_of_getElem? ht
        have hall : ([31].all fun u => !Tryd.prog.wantsStandIn u) = true := by kernel_rfl
        exact (show Tryd.prog.wantsStandIn t = false by simpa using List.all_eq_true.1 hall t hm)⟩)
    (by kernel_rfl)
#print axioms proved
end Go.Proofs.YtclnpglnomfjkaaDoor.wireNil

/- What this text proves: the tied card of the statement WireBack. No condition. -/
import Derived.Test.YtclnpglnomfjkaaDoorRowBack
import Derived.Test.YtclnpglnomfjkaaDoorCards
import Derived.Test.YtclnpglnomfjkaaDoorTie
import Derived.SevenTiedAt
namespace Go.Proofs.YtclnpglnomfjkaaDoor.wireBack
open Go

/-- The statement. -/
theorem proved : Rows.WireBackCardSaid :=
  Claim7.holds_tied_plain_at .later [] [.sentinel] true (true, "f81773f4af3bbbca76792de2a18a0a4767a6d9d66ab836132b563224e0e21d64") true
    over (fun _ h => by cases h) (by kernel_rfl) (fun _ h => by cases h) wireBack_row_tie rfl ⟨rfl, rfl⟩ (by kernel_rfl) rfl
    (fun f fn hf hfn => by
      obtain rfl : f = 7 := Option.some.inj ((show Tryd.prog.funcNamed "nuncio/nunciolaw02.WireBack" = some 7 by kernel_rfl).symm.trans hf) |>.symm
      obtain rfl : fn = Tryd.f7 := (Option.some.inj (Tryd.func7.symm.trans hfn)).symm
      exact ⟨by kernel_rfl, fun j t ht => by
        rw [Tryd.params7] at ht
        have hm : t ∈ [22, 5] := by simpa using Array.mem_of_getElem? ht
        have hall : ([22, 5].all fun u => !Tryd.prog.wantsStandIn u) = true := by kernel_rfl
        exact (show Tryd.prog.wantsStandIn t = false by simpa using List.all_eq_true.1 hall t hm)⟩)
    (by kernel_rfl)
#print axioms proved
end Go.Proofs.YtclnpglnomfjkaaDoor.wireBack

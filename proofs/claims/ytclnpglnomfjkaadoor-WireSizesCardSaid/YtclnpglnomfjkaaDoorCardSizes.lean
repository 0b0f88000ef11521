/- What this text proves: the tied card of the statement WireSizes. No condition. -/
import Derived.Test.YtclnpglnomfjkaaDoorRowSizes
import Derived.Test.YtclnpglnomfjkaaDoorCards
import Derived.Test.YtclnpglnomfjkaaDoorTie
import Derived.SevenTiedAt
namespace Go.Proofs.YtclnpglnomfjkaaDoor.wireSizes
open Go

/-- The statement. -/
theorem proved : Rows.WireSizesCardSaid :=
  Claim7.holds_tied_plain_at .later [] [.sentinel] true (true, "f81773f4af3bbbca76792de2a18a0a4767a6d9d66ab836132b563224e0e21d64") true
    over (fun _ h => by cases h) (by kernel_rfl) (fun _ h => by cases h) wireSizes_row_tie rfl ⟨rfl, rfl⟩ (by kernel_rfl) rfl
    (fun f fn hf hfn => by
      obtain rfl : f = 4 := Option.some.inj ((show Tryd.prog.funcNamed "nuncio/nunciolaw02.WireSizes" = some 4 by kernel_rfl).symm.trans hf) |>.symm
      obtain rfl : fn = Tryd.f4 := (Option.some.inj (Tryd.func4.symm.trans hfn)).symm
      exact ⟨by kernel_rfl, fun j t ht => by
        rw [Tryd.params4] at ht
        have hm : t ∈ [22] := by simpa using Array.mem_of_getElem? ht
        have hall : ([22].all fun u => !Tryd.prog.wantsStandIn u) = true := by kernel_rfl
        exact (show Tryd.prog.wantsStandIn t = false by simpa using List.all_eq_true.1 hall t hm)⟩)
    (by kernel_rfl)
#print axioms proved
end Go.Proofs.YtclnpglnomfjkaaDoor.wireSizes

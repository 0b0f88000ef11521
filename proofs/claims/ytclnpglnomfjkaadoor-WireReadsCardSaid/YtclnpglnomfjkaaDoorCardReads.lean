/- What this text proves: the tied card of the statement WireReads. No condition. -/
import Derived.Test.YtclnpglnomfjkaaDoorRowReads
import Derived.Test.YtclnpglnomfjkaaDoorCards
import Derived.Test.YtclnpglnomfjkaaDoorTie
import Derived.SevenTiedAt
namespace Go.Proofs.YtclnpglnomfjkaaDoor.wireReads
open Go

/-- The statement. -/
theorem proved : Rows.WireReadsCardSaid :=
  Claim7.holds_tied_plain_at .later [] [.sentinel] true (true, "f81773f4af3bbbca76792de2a18a0a4767a6d9d66ab836132b563224e0e21d64") true
    over (fun _ h => by cases h) (by kernel_rfl) (fun _ h => by cases h) wireReads_row_tie rfl ⟨rfl, rfl⟩ (by kernel_rfl) rfl
    (fun f fn hf hfn => by
      obtain rfl : f = 5 := Option.some.inj ((show Tryd.prog.funcNamed "nuncio/nunciolaw02.WireReads" = some 5 by kernel_rfl).symm.trans hf) |>.symm
      obtain rfl : fn = Tryd.f5 := (Option.some.inj (Tryd.func5.symm.trans hfn)).symm
      exact ⟨by kernel_rfl, fun j t ht => by
        rw [Tryd.params5] at ht
        have hm : t ∈ [26, 22] := by simpa using Array.mem_of_getElem? ht
        have hall : ([26, 22].all fun u => !Tryd.prog.wantsStandIn u) = true := by kernel_rfl
        exact (show Tryd.prog.wantsStandIn t = false by simpa using List.all_eq_true.1 hall t hm)⟩)
    (by kernel_rfl)
#print axioms proved
end Go.Proofs.YtclnpglnomfjkaaDoor.wireReads

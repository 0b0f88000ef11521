/- What this text proves: how an argument of the type api.Validator reads. No condition. -/
import Derived.Test.YtlocapkofmpebaaOpen
import Derived.Lib.SmallJoins
namespace Go.Proofs.Ytlocapkofmpebaa
open Go.ChangeShapes Go.WideShapes Go.ChangeAt Go.RowKit Go.Deep Go.Joins
set_option linter.unusedVariables false
set_option linter.unusedSimpArgs false

theorem open_val {H : Type} {enc : TypeId × Value → H} {w : World} {base b0 : Nat} {spare : Nat → Bool} {held : Bool} {r : Reach} {v : Value} {d : DataW H} {p : List MemPlace} (hv : Value.okWide Try.prog w r b0 26 v) (h : DataW.Trod enc Try.prog w base spare held 26 v d p) :
    ∃ k p : Int, v = .agg #[.int .u64 k, .int .i64 p] ∧ (Lit.int .u64 k).wf = true ∧ (Lit.int .i64 p).wf = true := by
  obtain ⟨cs, rfl, _⟩ := okWide_struct Try.underlying26 hv
  obtain ⟨fuel, hf⟩ := h
  obtain ⟨xs, n', _, _, hlen2, hxl, hfs⟩ := DataW.trod_struct Try.underlying26 hf
  rw [show Try.prog.cellsOf 26 = 2 by kernel_rfl] at hlen2
  simp only [Value.cells] at hlen2 hfs
  obtain ⟨l, rfl⟩ : ∃ l : List Value, cs = l.toArray := ⟨cs.toList, by simp⟩
  match l, hlen2 with
  | [c0, c1], _ =>
    have e1 : Try.prog.cellsOf 24 = 1 := by kernel_rfl
    have e3 : Try.prog.cellsOf 3 = 1 := by kernel_rfl
    have f0 : DataW.trod enc Try.prog w base spare held n' 24 (([c0, c1].drop 0).take (Try.prog.cellsOf 24)) = xs[0]? := hfs 0 _ rfl
    have f1 : DataW.trod enc Try.prog w base spare held n' 3 (([c0, c1].drop 1).take (Try.prog.cellsOf 3)) = xs[1]? := hfs 1 _ rfl
    simp only [e1, e3, List.drop_zero, List.drop_succ_cons, List.take_succ_cons, List.take_zero] at f0 f1
    rw [List.getElem?_eq_getElem (by rw [hxl]; decide)] at f0 f1
    obtain ⟨k0, hk0, _, w0⟩ := DataW.trod_int Try.underlying24 f0
    obtain ⟨k1, hk1, _, w1⟩ := DataW.trod_int Try.underlying3 f1
    simp at hk0 hk1
    subst hk0 hk1
    exact ⟨k0, k1, rfl, w0, w1⟩
end Go.Proofs.Ytlocapkofmpebaa

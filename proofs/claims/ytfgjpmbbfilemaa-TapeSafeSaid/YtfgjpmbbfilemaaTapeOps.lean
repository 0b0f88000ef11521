/- What this text proves: facts on the two tapes that the laws with loops share: how the k-th operation lies, and the calls on both tapes. The conditions are how the tapes and the operations lie in memory. -/
import Derived.Test.YtfgjpmbbfilemaaOpenOp
import Derived.Test.YtfgjpmbbfilemaaTapeAlive
import Derived.Test.YtfgjpmbbfilemaaTapeActW
namespace Go.Proofs.Ytfgjpmbbfilemaa
open Go.RowKit
set_option linter.unusedVariables false
set_option linter.unusedSimpArgs false

/-- How the k-th operation lies. -/
theorem op_at {w : World} {A : Option Addr} {l : List OpV} {k : Nat} {o : OpV} (h : Sl w w.heap.size 4 A l.length (l.flatMap OpV.cells)) (hk : l[k]? = some o) :
    ∃ b off, A = some ⟨b, off, none⟩ ∧ b < w.heap.size ∧ w.cell? ⟨b, off + k * 4, none⟩ = some (.int .i64 o.k) ∧ w.cell? ⟨b, off + k * 4 + 1, none⟩ = some (.int .i64 o.n) ∧ w.cell? ⟨b, off + k * 4 + 2, none⟩ = some (.int .i64 o.m) ∧ w.cell? ⟨b, off + k * 4 + 3, none⟩ = some (.slice o.A o.b.length o.c) := by
  have hl : k < l.length := (List.getElem?_eq_some_iff.1 hk).1
  obtain ⟨b, off, hA, hb, hc⟩ := h.at_ (by omega)
  have g := fun j (hj : j < 4) => flat_get OpV.cells (s := 4) (fun _ => rfl) l k o j hk hj
  refine ⟨b, off, hA, hb, ?_, ?_, ?_, ?_⟩
  · exact hc (k * 4) _ (by have := g 0 (by omega); simpa [OpV.cells] using this)
  · rw [Nat.add_assoc]; exact hc (k * 4 + 1) _ (by have := g 1 (by omega); simpa [OpV.cells] using this)
  · rw [Nat.add_assoc]; exact hc (k * 4 + 2) _ (by have := g 2 (by omega); simpa [OpV.cells] using this)
  · rw [Nat.add_assoc]; exact hc (k * 4 + 3) _ (by have := g 3 (by omega); simpa [OpV.cells] using this)

theorem both_act (o : OpV) {w : World} {B p m : Nat} {sv lv : Value} {f n : List UInt8 × Nat} {st : List (List UInt8 × Nat)} (h : Both w B p sv m lv f n st) (hB : B ≤ w.heap.size) (hn : st.length ≤ 999999) (hM : o.b.length ≤ maxLen) (hs : Sl w B 1 o.A o.b.length (bts o.b)) :
    Calls Try.prog 16 #[.agg #[.int .i64 o.k, .int .i64 o.n, .int .i64 o.m, .slice o.A o.b.length o.c], .pointer (some ⟨p, 0, none⟩), .pointer (some ⟨m, 0, none⟩)] w (ActPost w B p m f st.length) := act_any o w h hB hn hM hs
end Go.Proofs.Ytfgjpmbbfilemaa

/- What this text proves: how a slice of slices of bytes that came in as an argument reads. No condition. -/
import Derived.Test.YtmiifbamflkiaaaDoorOpenRow
import Derived.Test.YtmiifbamflkiaaaDoorBlakePieces
namespace Go.Proofs.YtmiifbamflkiaaaDoor
open Go.ChangeShapes Go.WideShapes Go.ChangeAt Go.RowKit Go.Deep
set_option linter.unusedVariables false
set_option linter.unusedSimpArgs false

theorem flat_slv (l : List Part) : l.flatMap (fun p => [slv p]) = l.map slv := by
  induction l with
  | nil => rfl
  | cons p l ih => simp only [List.flatMap_cons, ih, List.map_cons, List.cons_append, List.nil_append]
section
variable {H : Type} {enc : TypeId × Value → H} {w : World}
theorem open_bytess {base b0 : Nat} {spare : Nat → Bool} {held : Bool} {r : Reach} {v : Value} {d : DataW H} {p : List MemPlace} (hv : Value.okWide Tryd.prog w r b0 29 v) (h : DataW.Trod enc Tryd.prog w base spare held 29 v d p) :
    ∃ (A : Option Addr) (l : List Part) (c : Nat), v = .slice A l.length c ∧ l.length ≤ c ∧ c ≤ maxLen ∧ Sl w w.heap.size 1 A l.length (l.map slv) ∧ ∀ q ∈ l, q.good w := by
  obtain ⟨A, n, c, rfl⟩ := okWide_slice Tryd.underlying29 hv
  obtain ⟨fuel, hf⟩ := h
  have := open_row (P := Tryd.prog) (β := Part) (fun p => [slv p]) (fun p => p.good w) (s := 1) (by omega) (fun _ => rfl) (by kernel_rfl) Tryd.underlying29 (fun n cs' y hd _ => by
    obtain ⟨A', l, c', h1, h2, h3, h4⟩ := open_bts hd
    exact ⟨(A', c', l), h1, h2, h3, h4⟩) hf
  simp only [flat_slv] at this
  obtain ⟨A', l, c', h1, h2, h3, h4, h5⟩ := this
  simp [Value.cells] at h1
  obtain ⟨rfl, rfl, rfl⟩ := h1
  exact ⟨A, l, c, rfl, h2, h3, h4, h5⟩
end
end Go.Proofs.YtmiifbamflkiaaaDoor

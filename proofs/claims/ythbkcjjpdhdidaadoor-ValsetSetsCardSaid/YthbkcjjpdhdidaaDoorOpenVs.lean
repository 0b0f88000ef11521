/- What this text proves: how a slice of validators that came in as an argument reads: its cells, as a plain list. No condition. -/
import Derived.Test.YthbkcjjpdhdidaaDoorBase
import Derived.Test.YthbkcjjpdhdidaaDoorOwn
import Derived.Test.YthbkcjjpdhdidaaDoorProg
import Derived.ProofKit
import Derived.OpenShut
import Derived.ChangeOld
import Derived.Deep.Slices
namespace Go.Proofs.YthbkcjjpdhdidaaDoor
open Go.ChangeShapes Go.WideShapes Go.ChangeAt Go.RowKit Go.Deep
set_option linter.unusedVariables false
set_option linter.unusedSimpArgs false
set_option maxRecDepth 100000


section
variable {H : Type} {enc : TypeId × Value → H} {w : World}

/-- What came in as a slice of validators. -/
theorem open_vals {base b0 : Nat} {spare : Nat → Bool} {held : Bool} {r : Reach} {v : Value} {d : DataW H} {p : List MemPlace} (hv : Value.okWide Tryd.prog w r b0 22 v) (h : DataW.Trod enc Tryd.prog w base spare held 22 v d p) (hlt : ∀ x ∈ p, x.block < w.heap.size) :
    ∃ (A : Option Addr) (l : List (Int × Int)) (c : Nat), v = .slice A l.length c ∧ l.length ≤ c ∧ c ≤ maxLen ∧ Sl w w.heap.size 2 A l.length (vCells l) ∧ ∀ x ∈ l, (Lit.int .u64 x.1).wf = true ∧ (Lit.int .i64 x.2).wf = true := by
  obtain ⟨A, n, c, rfl⟩ := okWide_slice Tryd.underlying22 hv
  obtain ⟨fuel, hf⟩ := h
  have hC : Tryd.prog.cellsOf 36 = 2 := by kernel_rfl
  rcases open_slice Tryd.underlying22 hf with ⟨hcs, _⟩ | ⟨a, len, cap, m, k, D, Pl, hcs, hb, hl, hm, hmm, hx, hi⟩
  · simp [Value.cells] at hcs
    obtain ⟨rfl, rfl, rfl⟩ := hcs
    exact ⟨none, [], 0, rfl, Nat.le_refl _, by simp [maxLen], Sl.nil _ _ _ _, by simp⟩
  · simp [Value.cells] at hcs
    obtain ⟨rfl, rfl, rfl⟩ := hcs
    have hmn : n ≤ m := by rw [hmm]; split <;> omega
    rw [hC] at hi
    have hone : ∀ i, i < n → ∃ kp : Int × Int, w.cell? (a.add (i * 2)) = some (.int .u64 kp.1) ∧ w.cell? (a.add (i * 2 + 1)) = some (.int .i64 kp.2) ∧ (Lit.int .u64 kp.1).wf = true ∧ (Lit.int .i64 kp.2).wf = true := by
      intro i hin
      obtain ⟨cs', hc', ht⟩ := hi i (by omega)
      obtain ⟨_, hlen, hat⟩ := World.cells?_some hc'
      obtain ⟨xs, n', _, _, hlen2, hxl, hfs⟩ := DataW.trod_struct Tryd.underlying36 ht
      match cs', hlen with
      | [c0, c1], _ =>
        have f0 : DataW.trod enc Tryd.prog w base spare held n' 23 (([c0, c1].drop 0).take (Tryd.prog.cellsOf 23)) = xs[0]? := hfs 0 _ rfl
        have f1 : DataW.trod enc Tryd.prog w base spare held n' 3 (([c0, c1].drop 1).take (Tryd.prog.cellsOf 3)) = xs[1]? := hfs 1 _ rfl
        have e1 : Tryd.prog.cellsOf 23 = 1 := by kernel_rfl
        have e2 : Tryd.prog.cellsOf 3 = 1 := by kernel_rfl
        simp only [e1, e2, List.drop_zero, List.drop_succ_cons, List.take_succ_cons, List.take_zero] at f0 f1
        have x0 : xs[0]? = some (xs[0]'(by rw [hxl]; decide)) := List.getElem?_eq_getElem _
        have x1 : xs[1]? = some (xs[1]'(by rw [hxl]; decide)) := List.getElem?_eq_getElem _
        rw [x0] at f0
        rw [x1] at f1
        obtain ⟨k0, hk0, _, w0⟩ := DataW.trod_int Tryd.underlying23 f0
        obtain ⟨k1, hk1, _, w1⟩ := DataW.trod_int Tryd.underlying3 f1
        simp at hk0 hk1
        subst hk0 hk1
        refine ⟨(k0, k1), ?_, ?_, w0, w1⟩
        · have := hat 0 (by omega)
          rw [add_add] at this
          simpa using this
        · have := hat 1 (by omega)
          rw [add_add] at this
          simpa using this
    obtain ⟨f, hf'⟩ := choose_lt (α := Int × Int) (p := fun i kp => w.cell? (a.add (i * 2)) = some (.int .u64 kp.1) ∧ w.cell? (a.add (i * 2 + 1)) = some (.int .i64 kp.2) ∧ (Lit.int .u64 kp.1).wf = true ∧ (Lit.int .i64 kp.2).wf = true) hone
    refine ⟨some a, (List.range n).map f, c, by simp, by simpa using hl, hm, ⟨by simp [vCells_len], fun hn => ?_⟩, ?_⟩
    · simp only [List.length_map, List.length_range] at hn
      obtain ⟨b, off, spot⟩ := a
      have h0 := (hf' 0 hn).1
      have hspot : spot = none := by simpa [Addr.add] using World.cell?_spot h0
      subst hspot
      refine ⟨b, off, rfl, World.block_lt_of_cell? w _ h0, fun j u hu => ?_⟩
      have hjl : j < n * 2 := by
        have := (List.getElem?_eq_some_iff.1 hu).1
        rw [vCells_len] at this
        simpa using this
      obtain ⟨g1, g2⟩ := vCells_get ((List.range n).map f) (j / 2) (by simp; omega)
      obtain ⟨c1, c2, _, _⟩ := hf' (j / 2) (by omega)
      have hfd : ((List.range n).map f).getD (j / 2) (0, 0) = f (j / 2) := by
        rw [List.getD_eq_getElem?_getD, List.getElem?_eq_getElem (by simp; omega)]
        simp
      rw [hfd] at g1 g2
      have hadd : ∀ m, (⟨b, off, none⟩ : Addr).add m = ⟨b, off + m, none⟩ := by
        intro m
        unfold Addr.add
        split <;> simp_all
      rw [hadd] at c1 c2
      rcases Nat.mod_two_eq_zero_or_one j with e | e
      · have : j = j / 2 * 2 := by omega
        rw [← this] at g1 c1
        rw [g1] at hu
        cases hu
        exact c1
      · have : j = j / 2 * 2 + 1 := by omega
        rw [← this] at g2 c2
        rw [g2] at hu
        cases hu
        exact c2
    · intro x hx
      simp only [List.mem_map, List.mem_range] at hx
      obtain ⟨i, hi, rfl⟩ := hx
      exact ⟨(hf' i hi).2.2.1, (hf' i hi).2.2.2⟩
end
end Go.Proofs.YthbkcjjpdhdidaaDoor

/- What this text proves: how a slice of a height's inputs reads that came in as an argument. No condition. -/
import Derived.Test.YtlhnhdkbfkbafaaDoorOpenRound
namespace Go.Proofs.YtlhnhdkbfkbafaaDoor
open Go.ChangeShapes Go.WideShapes Go.ChangeAt Go.RowKit Go.Deep Go.Joins
set_option linter.unusedVariables false
set_option linter.unusedSimpArgs false

abbrev InF := { i : In // i.fits }
instance : Inhabited InF := ⟨⟨⟨0, 0, zeros, 0, false, zeros⟩, zeros_len, zeros_len⟩⟩
theorem flat_lenF {β : Type} {s : Nat} (f : β → List Value) (hf : ∀ b, (f b).length = s) : ∀ l : List β, (l.flatMap f).length = l.length * s
  | [] => by simp
  | b :: l => by simp [flat_lenF f hf l, hf, Nat.add_mul]; omega
theorem flat_getF {β : Type} {s : Nat} (f : β → List Value) (hf : ∀ b, (f b).length = s) : ∀ (l : List β) (i : Nat) (b : β) (j : Nat), l[i]? = some b → j < s → (l.flatMap f)[i * s + j]? = (f b)[j]?
  | [], i, b, j, h, _ => by simp at h
  | a :: l, 0, b, j, h, hj => by
    simp at h
    subst h
    rw [List.flatMap_cons, List.getElem?_append_left (by rw [hf]; omega)]
    simp
  | a :: l, i + 1, b, j, h, hj => by
    rw [List.flatMap_cons, List.getElem?_append_right (by rw [hf, Nat.add_mul]; omega), hf, show (i + 1) * s + j - s = i * s + j from by rw [Nat.add_mul]; omega]
    exact flat_getF f hf l i b j (by simpa using h) hj
section
variable {H : Type} {enc : TypeId × Value → H} {w : World} {P : Program}
/-- A slice, by how an element reads. -/
theorem open_rowF {base : Nat} {spare : Nat → Bool} {held : Bool} {t e : TypeId} {fuel : Nat} {cs : List Value} {x : DataW H × List MemPlace} {β : Type} [Inhabited β] (f : β → List Value) {s : Nat} (hs : 0 < s) (hlen : ∀ b, (f b).length = s) (hC : P.cellsOf e = s)
    (ht : P.underlying t = some (.slice e)) (hone : ∀ n cs' y, DataW.trod enc P w base spare held n e cs' = some y → ∃ b, cs' = f b) (h : DataW.trod enc P w base spare held fuel t cs = some x) :
    ∃ (A : Option Addr) (l : List β) (c : Nat), cs = [.slice A l.length c] ∧ l.length ≤ c ∧ c ≤ maxLen ∧ Sl w w.heap.size s A l.length (l.flatMap f) := by
  rcases open_slice ht h with ⟨hcs, _⟩ | ⟨a, len, cap, m, k, D, Pl, hcs, hb, hl, hm, hmm, hx, hi⟩
  · subst hcs
    exact ⟨none, [], 0, rfl, Nat.le_refl _, by simp [maxLen], Sl.nil _ _ _ _⟩
  · subst hcs
    have hmn : len ≤ m := by rw [hmm]; split <;> omega
    rw [hC] at hi
    have hone' : ∀ i, i < len → ∃ b : β, ∀ j u, (f b)[j]? = some u → w.cell? (a.add (i * s + j)) = some u := by
      intro i hin
      obtain ⟨cs', hc', hd⟩ := hi i (by omega)
      obtain ⟨_, hln, hat⟩ := World.cells?_some hc'
      obtain ⟨b, rfl⟩ := hone _ _ _ hd
      refine ⟨b, fun j u hu => ?_⟩
      have hj : j < s := by have := (List.getElem?_eq_some_iff.1 hu).1; rw [hlen] at this; exact this
      have := hat j hj
      rw [add_add] at this
      rw [this, hu]
    obtain ⟨g, hg⟩ := choose_lt (α := β) (p := fun i b => ∀ j u, (f b)[j]? = some u → w.cell? (a.add (i * s + j)) = some u) hone'
    refine ⟨some a, (List.range len).map g, cap, by simp, by simpa using hl, hm, ⟨by rw [flat_lenF f hlen], fun hn => ?_⟩⟩
    simp only [List.length_map, List.length_range] at hn
    obtain ⟨b, off, spot⟩ := a
    have hf0 : ∃ u, (f (g 0))[0]? = some u := ⟨_, List.getElem?_eq_getElem (by rw [hlen]; exact hs)⟩
    obtain ⟨u0, hu0⟩ := hf0
    have h0 := hg 0 hn 0 u0 hu0
    have hspot : spot = none := by simpa [Addr.add] using World.cell?_spot h0
    subst hspot
    have hadd : ∀ m, (⟨b, off, none⟩ : Addr).add m = ⟨b, off + m, none⟩ := by
      intro m
      unfold Addr.add
      split <;> simp_all
    refine ⟨b, off, rfl, ?_, fun j u hu => ?_⟩
    · have := World.block_lt_of_cell? w _ h0
      rwa [hadd] at this
    · have hjl : j < len * s := by
        have := (List.getElem?_eq_some_iff.1 hu).1
        rw [flat_lenF f hlen] at this
        simpa using this
      have hq : j / s < len := Nat.div_lt_of_lt_mul (by rw [Nat.mul_comm]; exact hjl)
      have hr : j % s < s := Nat.mod_lt _ hs
      have hjq : j / s * s + j % s = j := by rw [Nat.mul_comm]; exact Nat.div_add_mod j s
      have := flat_getF f hlen ((List.range len).map g) (j / s) (g (j / s)) (j % s) (by simp [hq]) hr
      rw [hjq, hu] at this
      have := hg _ hq _ _ this.symm
      rw [hjq, hadd] at this
      exact this
theorem flat_val (l : List InF) : (l.flatMap fun i => i.val.cells) = ((l.map Subtype.val).flatMap In.cells) := by
  induction l with
  | nil => rfl
  | cons a l ih => simp only [List.flatMap_cons, List.map_cons, ih]
/-- A slice of inputs. -/
theorem open_ins {base b0 : Nat} {spare : Nat → Bool} {held : Bool} {r : Reach} {v : Value} {d : DataW H} {p : List MemPlace} (hv : Value.okWide Tryd.prog w r b0 42 v) (h : DataW.Trod enc Tryd.prog w base spare held 42 v d p) :
    ∃ (A : Option Addr) (l : List In) (c : Nat), v = .slice A l.length c ∧ l.length ≤ c ∧ c ≤ maxLen ∧ Sl w w.heap.size 68 A l.length (l.flatMap In.cells) ∧ ∀ i ∈ l, i.fits := by
  obtain ⟨A, n, c, rfl⟩ := okWide_slice Tryd.underlying42 hv
  obtain ⟨fuel, hf⟩ := h
  obtain ⟨A', l, c', h1, h2, h3, h4⟩ := open_rowF (P := Tryd.prog) (β := InF) (fun i => i.val.cells) (s := 68) (by omega) (fun b => In.cells_len b.2) (by kernel_rfl) Tryd.underlying42 (fun n cs' y hd => by
    obtain ⟨o, ho, hg⟩ := open_inputc hd
    exact ⟨⟨o, hg⟩, ho⟩) hf
  simp [Value.cells] at h1
  obtain ⟨rfl, rfl, rfl⟩ := h1
  refine ⟨A, l.map Subtype.val, c, by simp, by simpa using h2, h3, by rw [← flat_val]; simpa using h4, fun i hi => ?_⟩
  obtain ⟨j, _, rfl⟩ := List.mem_map.1 hi
  exact j.2
end
end Go.Proofs.YtlhnhdkbfkbafaaDoor

/- What this text proves: how a slice that came in as an argument reads, from how one of its elements reads; slices of bytes among them. No condition. -/
import Derived.Test.YtdeikpifflkabaaDoorOwn
import Derived.Test.YtdeikpifflkabaaDoorBytes
namespace Go.Proofs.YtdeikpifflkabaaDoor
open Go.ChangeShapes Go.WideShapes Go.ChangeAt Go.RowKit Go.Deep
set_option linter.unusedVariables false
set_option linter.unusedSimpArgs false
set_option maxRecDepth 100000

theorem flat_len {β : Type} {s : Nat} (f : β → List Value) (hf : ∀ b, (f b).length = s) : ∀ l : List β, (l.flatMap f).length = l.length * s
  | [] => by simp
  | b :: l => by simp [flat_len f hf l, hf, Nat.add_mul]; omega
theorem flat_get {β : Type} {s : Nat} (f : β → List Value) (hf : ∀ b, (f b).length = s) : ∀ (l : List β) (i : Nat) (b : β) (j : Nat), l[i]? = some b → j < s → (l.flatMap f)[i * s + j]? = (f b)[j]?
  | [], i, b, j, h, _ => by simp at h
  | a :: l, 0, b, j, h, hj => by
    simp at h
    subst h
    rw [List.flatMap_cons, List.getElem?_append_left (by rw [hf]; omega)]
    simp
  | a :: l, i + 1, b, j, h, hj => by
    rw [List.flatMap_cons, List.getElem?_append_right (by rw [hf, Nat.add_mul]; omega), hf, show (i + 1) * s + j - s = i * s + j from by rw [Nat.add_mul]; omega]
    exact flat_get f hf l i b j (by simpa using h) hj

section
variable {H : Type} {enc : TypeId × Value → H} {w : World} {P : Program}
/-- A slice, by how an element reads. -/
theorem open_row {base : Nat} {spare : Nat → Bool} {held : Bool} {t e : TypeId} {fuel : Nat} {cs : List Value} {x : DataW H × List MemPlace} {β : Type} [Inhabited β] (f : β → List Value) (good : β → Prop) {s : Nat} (hs : 0 < s) (hlen : ∀ b, (f b).length = s) (hC : P.cellsOf e = s)
    (ht : P.underlying t = some (.slice e)) (hone : ∀ n cs' y, DataW.trod enc P w base spare held n e cs' = some y → (∀ p ∈ y.2, p ∈ x.2) → ∃ b, cs' = f b ∧ good b) (h : DataW.trod enc P w base spare held fuel t cs = some x) :
    ∃ (A : Option Addr) (l : List β) (c : Nat), cs = [.slice A l.length c] ∧ l.length ≤ c ∧ c ≤ maxLen ∧ Sl w w.heap.size s A l.length (l.flatMap f) ∧ ∀ b ∈ l, good b := by
  rcases open_slice ht h with ⟨hcs, _⟩ | ⟨a, len, cap, m, k, D, Pl, hcs, hb, hl, hm, hmm, hx, hi⟩
  · subst hcs
    exact ⟨none, [], 0, rfl, Nat.le_refl _, by simp [maxLen], Sl.nil _ _ _ _, by simp⟩
  · subst hcs
    have hmn : len ≤ m := by rw [hmm]; split <;> omega
    rw [hC] at hi
    have hone' : ∀ i, i < len → ∃ b : β, (∀ j u, (f b)[j]? = some u → w.cell? (a.add (i * s + j)) = some u) ∧ good b := by
      intro i hin
      obtain ⟨cs', hc', hd⟩ := hi i (by omega)
      obtain ⟨_, hln, hat⟩ := World.cells?_some hc'
      obtain ⟨b, rfl, hg⟩ := hone _ _ _ hd (fun p hp => by
        rw [hx]
        simp only [List.mem_append, List.mem_flatMap, List.mem_range]
        exact .inr ⟨i, by omega, hp⟩)
      refine ⟨b, fun j u hu => ?_, hg⟩
      have hj : j < s := by have := (List.getElem?_eq_some_iff.1 hu).1; rw [hlen] at this; exact this
      have := hat j hj
      rw [add_add] at this
      rw [this, hu]
    obtain ⟨g, hg⟩ := choose_lt (α := β) (p := fun i b => (∀ j u, (f b)[j]? = some u → w.cell? (a.add (i * s + j)) = some u) ∧ good b) hone'
    refine ⟨some a, (List.range len).map g, cap, by simp, by simpa using hl, hm, ⟨by rw [flat_len f hlen], fun hn => ?_⟩, ?_⟩
    · simp only [List.length_map, List.length_range] at hn
      obtain ⟨b, off, spot⟩ := a
      have hf0 : ∃ u, (f (g 0))[0]? = some u := ⟨_, List.getElem?_eq_getElem (by rw [hlen]; exact hs)⟩
      obtain ⟨u0, hu0⟩ := hf0
      have h0 := (hg 0 hn).1 0 u0 hu0
      have hspot : spot = none := by simpa [Addr.add] using World.cell?_spot h0
      subst hspot
      have hadd : ∀ m, (⟨b, off, none⟩ : Addr).add m = ⟨b, off + m, none⟩ := by
        intro m
        unfold Addr.add
        split <;> simp_all
      refine ⟨b, off, rfl, ?_, fun j u hu => ?_⟩
      · have := World.block_lt_of_cell? w _ h0
        rwa [hadd] at this
      · have hjl : j < len * s := by
          have := (List.getElem?_eq_some_iff.1 hu).1
          rw [flat_len f hlen] at this
          simpa using this
        have hq : j / s < len := Nat.div_lt_of_lt_mul (by rw [Nat.mul_comm]; exact hjl)
        have hr : j % s < s := Nat.mod_lt _ hs
        have hjq : j / s * s + j % s = j := by rw [Nat.mul_comm]; exact Nat.div_add_mod j s
        have := flat_get f hlen ((List.range len).map g) (j / s) (g (j / s)) (j % s) (by simp [hq]) hr
        rw [hjq, hu] at this
        have := (hg _ hq).1 _ _ this.symm
        rw [hjq, hadd] at this
        exact this
    · intro x hx
      simp only [List.mem_map, List.mem_range] at hx
      obtain ⟨i, hi, rfl⟩ := hx
      exact (hg i hi).2

theorem bts_flat (xs : List UInt8) : xs.flatMap (fun x => [.int .u8 (x.toNat : Int)]) = bts xs := by
  induction xs with
  | nil => rfl
  | cons x xs ih => simp only [List.flatMap_cons, ih]; rfl
theorem wf_u8 {k : Int} (h : (Lit.int .u8 k).wf = true) : 0 ≤ k ∧ k < 256 := by
  have := bounds_u8 h
  omega
/-- A slice of bytes. -/
theorem open_bts {base : Nat} {spare : Nat → Bool} {held : Bool} {fuel : Nat} {cs : List Value} {x : DataW H × List MemPlace} (h : DataW.trod enc Tryd.prog w base spare held fuel 59 cs = some x) :
    ∃ (A : Option Addr) (l : List UInt8) (c : Nat), cs = [.slice A l.length c] ∧ l.length ≤ c ∧ c ≤ maxLen ∧ Sl w w.heap.size 1 A l.length (bts l) := by
  have := open_row (P := Tryd.prog) (β := UInt8) (fun x => [.int .u8 (x.toNat : Int)]) (fun _ => True) (s := 1) (by omega) (fun _ => rfl) (by kernel_rfl) Tryd.underlying59 (fun n cs' y hd _ => by
    obtain ⟨k, rfl, _, hw⟩ := DataW.trod_int Tryd.underlying5 hd
    obtain ⟨h1, h2⟩ := wf_u8 hw
    refine ⟨UInt8.ofNat k.toNat, ?_, trivial⟩
    congr 2
    simp
    omega) h
  simp only [bts_flat] at this
  obtain ⟨A, l, c, h1, h2, h3, h4, _⟩ := this
  exact ⟨A, l, c, h1, h2, h3, h4⟩
theorem open_bytes {base b0 : Nat} {spare : Nat → Bool} {held : Bool} {r : Reach} {v : Value} {d : DataW H} {p : List MemPlace} (hv : Value.okWide Tryd.prog w r b0 59 v) (h : DataW.Trod enc Tryd.prog w base spare held 59 v d p) :
    ∃ (A : Option Addr) (l : List UInt8) (c : Nat), v = .slice A l.length c ∧ l.length ≤ c ∧ c ≤ maxLen ∧ Sl w w.heap.size 1 A l.length (bts l) := by
  obtain ⟨A, n, c, rfl⟩ := okWide_slice Tryd.underlying59 hv
  obtain ⟨fuel, hf⟩ := h
  obtain ⟨A', l, c', h1, h2, h3, h4⟩ := open_bts hf
  simp [Value.cells] at h1
  obtain ⟨rfl, rfl, rfl⟩ := h1
  exact ⟨A, l, c, rfl, h2, h3, h4⟩
end
end Go.Proofs.YtdeikpifflkabaaDoor

/- What this text proves: (*bytes.Buffer).WriteByte, Write and WriteString as a wire.Writer calls them: the bytes stand behind, all other memory is as it was. The conditions are how the writer lies in memory. -/
import Derived.Test.YthbkcjjpdhdidaaDoorWireBuf
import Derived.Laws.IdiomCopy
namespace Go.Proofs.YthbkcjjpdhdidaaDoor
open Go.RowKit Go.Shelf
set_option linter.unusedVariables false
set_option linter.unusedSimpArgs false

/-- What a write leaves. -/
def WrP (w : World) (B b : Nat) (R : Nat → Option Value) (bs : List Value) (w' : World) : Prop := ∃ v', Bf w' B b R v' bs ∧ Below B w w' ∧ KB b w w'
theorem WrP.trans {w w1 w2 : World} {B b : Nat} {R : Nat → Option Value} {cs : List Value} (hb : Below B w w1) (hk : KB b w w1) (h : WrP w1 B b R cs w2) : WrP w B b R cs w2 := by
  obtain ⟨v', h1, h2, h3⟩ := h
  exact ⟨v', h1, hb.trans h2, hk.trans h3⟩
theorem Bf.last {w : World} {B b : Nat} {R : Nat → Option Value} {v : Value} {bs : List Value} (h : Bf w B b R v bs) (x : Int) : Bf (w.setCell ⟨b, 2, none⟩ (.int .i8 x)) B b R v bs := by
  obtain ⟨hB, lr, h3, ho, hn, h0⟩ := h
  exact ⟨hB, x, h3.set2 _, ho.kept (Lib.grownBy_setCell w b 2 _) (Or.inr hn), hn, h0⟩
theorem Bf.cell2 {w : World} {B b : Nat} {R : Nat → Option Value} {v : Value} {bs : List Value} (h : Bf w B b R v bs) : ∃ lr, w.cell? ⟨b, 2, none⟩ = some (.int .i8 lr) ∧ w.frozen? ⟨b, 2, none⟩ = false := by
  obtain ⟨hB, lr, h3, _⟩ := h
  exact ⟨lr, h3.c2, h3.f 2⟩
theorem Bf.cell0 {w : World} {B b : Nat} {R : Nat → Option Value} {v : Value} {bs : List Value} (h : Bf w B b R v bs) : w.cell? ⟨b, 0, none⟩ = some v := by
  obtain ⟨hB, lr, h3, _⟩ := h
  exact h3.c0
theorem last_bel {w : World} {B b : Nat} (hB : B ≤ b) (x : Int) : Below B w (w.setCell ⟨b, 2, none⟩ (.int .i8 x)) := (Below.refl B w).setCell (p := ⟨b, 2, none⟩) hB _
theorem last_kb {w : World} {B b : Nat} {R : Nat → Option Value} {v : Value} {bs : List Value} (h : Bf w B b R v bs) (x : Int) : KB b w (w.setCell ⟨b, 2, none⟩ (.int .i8 x)) :=
  KB.same ((h.last x).cell0.trans h.cell0.symm) (Lib.grownBy_setCell w b 2 _)
theorem last_sz {w : World} {b : Nat} (x : Int) : (w.setCell ⟨b, 2, none⟩ (.int .i8 x)).heap.size = w.heap.size := by simp [World.setCell]

section
variable {w : World} {B b g l n cap : Nat} {R : Nat → Option Value} {cur : Array Value} {bs : List Value}
theorem Room.c0 (h : Room w B b R g l n cap cur bs) : w.cell? ⟨b, 0, none⟩ = some (.slice (some ⟨g, 0, none⟩) (l + n) cap) := by obtain ⟨lr, h3⟩ := h.three; exact h3.c0
/-- One cell poked. -/
theorem Room.poke (h : Room w B b R g l 1 cap cur bs) (hB : B ≤ b) (u : Value) : WrP w B b R (bs ++ [u]) (w.setCell ⟨g, l, none⟩ u) := by
  obtain ⟨lr, h3⟩ := h.three
  have hlen : bs.length = l := by rw [← h.htk, List.length_take, Array.length_toList, h.hcs]; have := h.hnc; omega
  have h3' := h3.of_heap (w' := w.setCell ⟨g, l, none⟩ u) (Below.heap_setCell _ _ _ _ (Ne.symm h.hgb))
  have hll : l < cur.toList.length := by rw [Array.length_toList, h.hcs]; have := h.hnc; omega
  have hrow : (cur.setIfInBounds l u).toList.take (l + 1) = bs ++ [u] := by
    rw [Array.toList_setIfInBounds, List.take_add_one, List.take_set_of_le (Nat.le_refl _), List.getElem?_set_self hll, h.htk]
    rfl
  refine ⟨.slice (some ⟨g, 0, none⟩) (l + 1) cap, ⟨hB, lr, h3', ⟨by simp, .inr ⟨g, cap, cur.setIfInBounds l u, by simp [hlen], h.hBg, Lib.heap_setCell_same (i := l) h.hg u, by simp [hlen]; exact h.hnc, h.hcm, by simp [h.hcs], by simp only [List.length_append, List.length_cons, List.length_nil, hlen, Nat.mul_one]; exact hrow⟩⟩, by simp [Value.ownBlock]; exact h.hgb, fun e => by simp at e⟩, (Below.refl B w).setCell (p := ⟨g, l, none⟩) h.hBg _, KB.poke h3.c0 rfl h.hgb l u⟩
/-- No cell. -/
theorem Room.keep (h : Room w B b R g l 0 cap cur bs) (hB : B ≤ b) (h0 : bs ≠ []) : WrP w B b R bs w := by
  obtain ⟨lr, h3⟩ := h.three
  have hlen : bs.length = l := by rw [← h.htk, List.length_take, Array.length_toList, h.hcs]; have := h.hnc; omega
  exact ⟨.slice (some ⟨g, 0, none⟩) l cap, ⟨hB, lr, h3, ⟨by simp, .inr ⟨g, cap, cur, by rw [hlen], h.hBg, h.hg, by rw [hlen]; exact h.hnc, h.hcm, by rw [Nat.mul_one]; exact h.hcs, by rw [hlen, Nat.mul_one]; exact h.htk⟩⟩, by simp [Value.ownBlock]; exact h.hgb, fun e => absurd e h0⟩, Below.refl _ _, KB.refl _ _⟩
/-- A row of cells laid. -/
theorem Room.laid (h : Room w B b R g l n cap cur bs) (hB : B ≤ b) (news : List Value) (hn : news.length = n) (h0 : bs ++ news ≠ []) : WrP w B b R (bs ++ news) (w.setRow g (cur.toList.take l ++ (news ++ cur.toList.drop (l + n))).toArray) := by
  obtain ⟨lr, h3⟩ := h.three
  have hcap := h.hnc
  have hlen : bs.length = l := by rw [← h.htk, List.length_take, Array.length_toList, h.hcs]; omega
  have h3' := h3.of_heap (w' := w.setRow g (cur.toList.take l ++ (news ++ cur.toList.drop (l + n))).toArray) (setRow_other _ _ _ _ (Ne.symm h.hgb))
  have hsz : (cur.toList.take l ++ (news ++ cur.toList.drop (l + n))).toArray.size = cap := by
    rw [h.htk]
    simp only [List.size_toArray, List.length_append, hlen, hn, List.length_drop, Array.length_toList, h.hcs]; omega
  have hrow : (cur.toList.take l ++ (news ++ cur.toList.drop (l + n))).toArray.toList.take (l + n) = bs ++ news := by
    rw [List.toList_toArray, h.htk, ← List.append_assoc, List.take_append_of_le_length (by rw [List.length_append]; omega), List.take_of_length_le (by rw [List.length_append]; omega)]
  have hL : (bs ++ news).length = l + n := by rw [List.length_append, hlen, hn]
  refine ⟨.slice (some ⟨g, 0, none⟩) (l + n) cap, ⟨hB, lr, h3', ⟨by rw [hL, Nat.mul_one], .inr ⟨g, cap, _, by rw [hL], h.hBg, setRow_heap w g cur _ 5 (0, 0) h.hg, by rw [hL]; exact h.hnc, h.hcm, by rw [Nat.mul_one]; exact hsz, by rw [hL, Nat.mul_one]; exact hrow⟩⟩, by simp [Value.ownBlock]; exact h.hgb, fun e => absurd e h0⟩, ⟨rfl, rfl, rfl, by simp, fun k hk => setRow_other _ _ _ _ (by have := h.hBg; omega)⟩, KB.row h3.c0 rfl h.hgb _⟩
end

theorem tg_one {R : Nat → Option Value} {B b : Nat} {v : Value} {bs : List Value} {w : World} (h : Bf w B b R v bs) :
    Calls Tryd.prog 53 #[.pointer (some ⟨b, 0, none⟩), .int .i64 1] w fun e w' => (e = .returned (.tuple #[.int .i64 bs.length, .bool true]) ∧ RoomP w B b R bs.length 1 bs w') ∨ (e = .returned (.tuple #[.int .i64 0, .bool false]) ∧ w' = w ∧ LibA.NoRoom b 0 1 w) :=
  tg_any R B b 1 v bs _ h (.inl (Nat.le_refl _))
theorem gr_one {R : Nat → Option Value} {B b : Nat} {v : Value} {bs : List Value} {w : World} (h : Bf w B b R v bs) (hBw : B ≤ w.heap.size) (h1 : ∀ v ∈ bs, v.oneCell' = true) (hlim : bs.length + 1 ≤ 140737488355328) (hnr : LibA.NoRoom b 0 1 w) :
    Calls Tryd.prog 54 #[.pointer (some ⟨b, 0, none⟩), .int .i64 1] w fun e w' => e = .returned (.int .i64 bs.length) ∧ RoomP w B b R bs.length 1 bs w' :=
  gr_any R B b 1 v bs _ h hBw h1 (Nat.le_refl _) (.inl (by decide)) hlim hnr

set_option maxHeartbeats 6400000 in
set_option maxRecDepth 100000 in
theorem writeByte_any (R : Nat → Option Value) (B b : Nat) (v : Value) (bs : List Value) (c : Int) (w : World) (h : Bf w B b R v bs) (hBw : B ≤ w.heap.size) (h1 : ∀ v ∈ bs, v.oneCell' = true) (hlim : bs.length + 1 ≤ 140737488355328) :
    Calls Tryd.prog 47 #[.pointer (some ⟨b, 0, none⟩), .int .u8 c] w fun e w' => e = .returned .nilIface ∧ WrP w B b R (bs ++ [.int .u8 c]) w' := by
  obtain ⟨lr, c2, f2⟩ := h.cell2
  have hB : B ≤ b := h.1
  have h' := h.last 0
  have L0 := Lib.hid (last_bel (w := w) hB 0)
  have K0 := Lib.hid (last_kb h 0)
  have hT := Lib.hid (tg_one h')
  have hG := Lib.hid (fun hn => gr_one h' (by rw [last_sz]; exact hBw) h1 hlim hn)
  obtain ⟨l, hl⟩ : ∃ l, bs.length = l := ⟨_, rfl⟩
  have hl' : l + 1 ≤ 140737488355328 := by omega
  rw [hl] at hT hG
  clear h' hlim
  go_enter Tryd.func47, Tryd.ntmps47
  go_wp2_with fail
  clear c2 f2
  with_reducible refine hT.out.mono ?_
  rintro e W1 (⟨rfl, g, cap, cur, hR, hb, hk⟩ | ⟨rfl, rfl, hnr⟩)
  · have HR := Lib.hid hR
    have HB := Lib.hid (L0.out.trans hb)
    have HK := Lib.hid (K0.out.trans hk)
    have d0 := hR.c0
    have hnc := hR.hnc
    have hcs := hR.hcs
    have hcm := hR.hcm
    unfold maxLen at hcm
    have hlt : l < cur.size := by omega
    have dg : W1.cell? ⟨g, l, none⟩ = some cur[l] := by rw [Lib.cell_of_heap hR.hg, Array.getElem?_eq_getElem hlt]
    have fg : W1.frozen? ⟨g, l, none⟩ = false := Lib.frozen_of_heap hR.hg _
    clear hR hb hk hT hG
    go_wp2_with fail
    go_ret
    exact ⟨rfl, (HR.out.poke hB _).trans HB.out HK.out⟩
  · have HG := Lib.hid (hG.out hnr)
    clear hnr hT hG
    go_wp2_with fail
    with_reducible refine HG.out.mono ?_
    rintro e W1 ⟨rfl, g, cap, cur, hR, hb, hk⟩
    have HR := Lib.hid hR
    have HB := Lib.hid (L0.out.trans hb)
    have HK := Lib.hid (K0.out.trans hk)
    have d0 := hR.c0
    have hnc := hR.hnc
    have hcs := hR.hcs
    have hcm := hR.hcm
    unfold maxLen at hcm
    have hlt : l < cur.size := by omega
    have dg : W1.cell? ⟨g, l, none⟩ = some cur[l] := by rw [Lib.cell_of_heap hR.hg, Array.getElem?_eq_getElem hlt]
    have fg : W1.frozen? ⟨g, l, none⟩ = false := Lib.frozen_of_heap hR.hg _
    clear hR hb hk HG
    go_wp2_with fail
    go_ret
    exact ⟨rfl, (HR.out.poke hB _).trans HB.out HK.out⟩

theorem byteCells_bts (l : List UInt8) : Lib.byteCells l = bts l := by
  simp [Lib.byteCells, bts]

end Go.Proofs.YthbkcjjpdhdidaaDoor

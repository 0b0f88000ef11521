/- What this text proves: (*bytes.Buffer).WriteByte, Write and WriteString as a wire.Writer calls them: the bytes stand behind, all other memory is as it was. The conditions are how the writer lies in memory. -/
import Derived.Test.YtclnpglnomfjkaaDoorWireBuf
import Derived.Laws.IdiomCopy
namespace Go.Proofs.YtclnpglnomfjkaaDoor
open Go.RowKit Go.Shelf
set_option linter.unusedVariables false
set_option linter.unusedSimpArgs false

/-- What a write leaves. -/
def WrP (w : World) (B b : Nat) (R : Nat → Option Value) (bs : List Value) (w' : World) : Prop := ∃ v', Bf w' B b R v' bs ∧ Below B w w' ∧ KB b w w'
theorem WrP.trans {w w1 w2 : World} {B b : Nat} {R : Nat → Option Value} {cs : List Value} (hb : Below B w w1) (hk : KB b w w1) (h : WrP w1 B b R cs w2) : WrP w B b R cs w2 := by
  obtain ⟨v', h1, h2, h3⟩ := h
  exact ⟨v', h1, hb.trans h2, hk.trans h3⟩
theorem Bf.last {w : World} {B b : Nat} {R : Nat → Option Value} {v : Value} {bs : List Value} (h : Bf w B b R v bs) (x : Int) : Bf (w.setCell ⟨b, 2, none⟩ (.int .i8 x)) B b R v bs := by
  obtain ⟨hB, lr, h3, ho, hn, h0⟩ := h
  exact ⟨hB, x, h3.set2 _, ho.kept (Lib.grownBy_setCell w b 2 _) (Or.inr hn), hn, h0⟩
theorem Bf.cell2 {w : World} {B b : Nat} {R : Nat → Option Value} {v : Value} {bs : List Value} (h : Bf w B b R v bs) : ∃ lr, w.cell? ⟨b, 2, none⟩ = some (.int .i8 lr) ∧ w.frozen? ⟨b, 2, none⟩ = false := by
  obtain ⟨hB, lr, h3, _⟩ := h
  exact ⟨lr, h3.c2, h3.f 2⟩
theorem Bf.cell0 {w : World} {B b : Nat} {R : Nat → Option Value} {v : Value} {bs : List Value} (h : Bf w B b R v bs) : w.cell? ⟨b, 0, none⟩ = some v := by
  obtain ⟨hB, lr, h3, _⟩ := h
  exact h3.c0
theorem last_bel {w : World} {B b : Nat} (hB : B ≤ b) (x : Int) : Below B w (w.setCell ⟨b, 2, none⟩ (.int .i8 x)) := (Below.refl B w).setCell (p := ⟨b, 2, none⟩) hB _
theorem last_kb {w : World} {B b : Nat} {R : Nat → Option Value} {v : Value} {bs : List Value} (h : Bf w B b R v bs) (x : Int) : KB b w (w.setCell ⟨b, 2, none⟩ (.int .i8 x)) :=
  KB.same ((h.last x).cell0.trans h.cell0.symm) (Lib.grownBy_setCell w b 2 _)
theorem last_sz {w : World} {b : Nat} (x : Int) : (w.setCell ⟨b, 2, none⟩ (.int .i8 x)).heap.size = w.heap.size := by simp [World.setCell]

section
variable {w : World} {B b g l n cap : Nat} {R : Nat → Option Value} {cur : Array Value} {bs : List Value}
theorem Room.c0 (h : Room w B b R g l n cap cur bs) : w.cell? ⟨b, 0, none⟩ = some (.slice (some ⟨g, 0, none⟩) (l + n) cap) := by obtain ⟨lr, h3⟩ := h.three; exact h3.c0
/-- One cell poked. -/
theorem Room.poke (h : Room w B b R g l 1 cap cur bs) (hB : B ≤ b) (u : Value) : WrP w B b R (bs ++ [u]) (w.setCell ⟨g, l, none⟩ u) := by
  obtain ⟨lr, h3⟩ := h.three
  have hlen : bs.length = l := by rw [← h.htk, List.length_take, Array.length_toList, h.hcs]; have := h.hnc; omega
  have h3' := h3.of_heap (w' := w.setCell ⟨g, l, none⟩ u) (Below.heap_setCell _ _ _ _ (Ne.symm h.hgb))
  have hll : l < cur.toList.length := by rw [Array.length_toList, h.hcs]; have := h.hnc; omega
  have hrow : (cur.setIfInBounds l u).toList.take (l + 1) = bs ++ [u] := by
    rw [Array.toList_setIfInBounds, List.take_add_one, List.take_set_of_le (Nat.le_refl _), List.getElem?_set_self hll, h.htk]
    rfl
  refine ⟨.slice (some ⟨g, 0, none⟩) (l + 1) cap, ⟨hB, lr, h3', ⟨by simp, .inr ⟨g, cap, cur.setIfInBounds l u, by simp [hlen], h.hBg, Lib.heap_setCell_same (i := l) h.hg u, by simp [hlen]; exact h.hnc, h.hcm, by simp [h.hcs], by simp only [List.length_append, List.length_cons, List.length_nil, hlen, Nat.mul_one]; exact hrow⟩⟩, by simp [Value.ownBlock]; exact h.hgb, fun e => by simp at e⟩, (Below.refl B w).setCell (p := ⟨g, l, none⟩) h.hBg _, KB.poke h3.c0 rfl h.hgb l u⟩
/-- No cell. -/
theorem Room.keep (h : Room w B b R g l 0 cap cur bs) (hB : B ≤ b) (h0 : bs ≠ []) : WrP w B b R bs w := by
  obtain ⟨lr, h3⟩ := h.three
  have hlen : bs.length = l := by rw [← h.htk, List.length_take, Array.length_toList, h.hcs]; have := h.hnc; omega
  exact ⟨.slice (some ⟨g, 0, none⟩) l cap, ⟨hB, lr, h3, ⟨by simp, .inr ⟨g, cap, cur, by rw [hlen], h.hBg, h.hg, by rw [hlen]; exact h.hnc, h.hcm, by rw [Nat.mul_one]; exact h.hcs, by rw [hlen, Nat.mul_one]; exact h.htk⟩⟩, by simp [Value.ownBlock]; exact h.hgb, fun e => absurd e h0⟩, Below.refl _ _, KB.refl _ _⟩
/-- A row of cells laid. -/
theorem Room.laid (h : Room w B b R g l n cap cur bs) (hB : B ≤ b) (news : List Value) (hn : news.length = n) (h0 : bs ++ news ≠ []) : WrP w B b R (bs ++ news) (w.setRow g (cur.toList.take l ++ (news ++ cur.toList.drop (l + n))).toArray) := by
  obtain ⟨lr, h3⟩ := h.three
  have hcap := h.hnc
  have hlen : bs.length = l := by rw [← h.htk, List.length_take, Array.length_toList, h.hcs]; omega
  have h3' := h3.of_heap (w' := w.setRow g (cur.toList.take l ++ (news ++ cur.toList.drop (l + n))).toArray) (setRow_other _ _ _ _ (Ne.symm h.hgb))
  have hsz : (cur.toList.take l ++ (news ++ cur.toList.drop (l + n))).toArray.size = cap := by
    rw [h.htk]
    simp only [List.size_toArray, List.length_append, hlen, hn, List.length_drop, Array.length_toList, h.hcs]; omega
  have hrow : (cur.toList.take l ++ (news ++ cur.toList.drop (l + n))).toArray.toList.take (l + n) = bs ++ news := by
    rw [List.toList_toArray, h.htk, ← List.append_assoc, List.take_append_of_le_length (by rw [List.length_append]; omega), List.take_of_length_le (by rw [List.length_append]; omega)]
  have hL : (bs ++ news).length = l + n := by rw [List.length_append, hlen, hn]
  refine ⟨.slice (some ⟨g, 0, none⟩) (l + n) cap, ⟨hB, lr, h3', ⟨by rw [hL, Nat.mul_one], .inr ⟨g, cap, _, by rw [hL], h.hBg, setRow_heap w g cur _ 5 (0, 0) h.hg, by rw [hL]; exact h.hnc, h.hcm, by rw [Nat.mul_one]; exact hsz, by rw [hL, Nat.mul_one]; exact hrow⟩⟩, by simp [Value.ownBlock]; exact h.hgb, fun e => absurd e h0⟩, ⟨rfl, rfl, rfl, by simp, fun k hk => setRow_other _ _ _ _ (by have := h.hBg; omega)⟩, KB.row h3.c0 rfl h.hgb _⟩
end

theorem tg_one {R : Nat → Option Value} {B b : Nat} {v : Value} {bs : List Value} {w : World} (h : Bf w B b R v bs) :
    Calls Tryd.prog 51 #[.pointer (some ⟨b, 0, none⟩), .int .i64 1] w fun e w' => (e = .returned (.tuple #[.int .i64 bs.length, .bool true]) ∧ RoomP w B b R bs.length 1 bs w') ∨ (e = .returned (.tuple #[.int .i64 0, .bool false]) ∧ w' = w ∧ LibA.NoRoom b 0 1 w) :=
  tg_any R B b 1 v bs _ h (.inl (Nat.le_refl _))
theorem gr_one {R : Nat → Option Value} {B b : Nat} {v : Value} {bs : List Value} {w : World} (h : Bf w B b R v bs) (hBw : B ≤ w.heap.size) (h1 : ∀ v ∈ bs, v.oneCell' = true) (hlim : bs.length + 1 ≤ 140737488355328) (hnr : LibA.NoRoom b 0 1 w) :
    Calls Tryd.prog 52 #[.pointer (some ⟨b, 0, none⟩), .int .i64 1] w fun e w' => e = .returned (.int .i64 bs.length) ∧ RoomP w B b R bs.length 1 bs w' :=
  gr_any R B b 1 v bs _ h hBw h1 (Nat.le_refl _) (.inl (by decide)) hlim hnr

set_option maxHeartbeats 6400000 in
set_option maxRecDepth 100000 in
theorem writeByte_any (R : Nat → Option Value) (B b : Nat) (v : Value) (bs : List Value) (c : Int) (w : World) (h : Bf w B b R v bs) (hBw : B ≤ w.heap.size) (h1 : ∀ v ∈ bs, v.oneCell' = true) (hlim : bs.length + 1 ≤ 140737488355328) :
    Calls Tryd.prog 50 #[.pointer (some ⟨b, 0, none⟩), .int .u8 c] w fun e w' => e = .returned .nilIface ∧ WrP w B b R (bs ++ [.int .u8 c]) w' := by
  obtain ⟨lr, c2, f2⟩ := h.cell2
  have hB : B ≤ b := h.1
  have h' := h.last 0
  have L0 := Lib.hid (last_bel (w := w) hB 0)
  have K0 := Lib.hid (last_kb h 0)
  have hT := Lib.hid (tg_one h')
  have hG := Lib.hid (fun hn => gr_one h' (by rw [last_sz]; exact hBw) h1 hlim hn)
  obtain ⟨l, hl⟩ : ∃ l, bs.length = l := ⟨_, rfl⟩
  have hl' : l + 1 ≤ 140737488355328 := by omega
  rw [hl] at hT hG
  clear h' hlim
  go_enter Tryd.func50, Tryd.ntmps50
  go_wp2_with fail
  clear c2 f2
  with_reducible refine hT.out.mono ?_
  rintro e W1 (⟨rfl, g, cap, cur, hR, hb, hk⟩ | ⟨rfl, rfl, hnr⟩)
  · have HR := Lib.hid hR
    have HB := Lib.hid (L0.out.trans hb)
    have HK := Lib.hid (K0.out.trans hk)
    have d0 := hR.c0
    have hnc := hR.hnc
    have hcs := hR.hcs
    have hcm := hR.hcm
    unfold maxLen at hcm
    have hlt : l < cur.size := by omega
    have dg : W1.cell? ⟨g, l, none⟩ = some cur[l] := by rw [Lib.cell_of_heap hR.hg, Array.getElem?_eq_getElem hlt]
    have fg : W1.frozen? ⟨g, l, none⟩ = false := Lib.frozen_of_heap hR.hg _
    clear hR hb hk hT hG
    go_wp2_with fail
    go_ret
    exact ⟨rfl, (HR.out.poke hB _).trans HB.out HK.out⟩
  · have HG := Lib.hid (hG.out hnr)
    clear hnr hT hG
    go_wp2_with fail
    with_reducible refine HG.out.mono ?_
    rintro e W1 ⟨rfl, g, cap, cur, hR, hb, hk⟩
    have HR := Lib.hid hR
    have HB := Lib.hid (L0.out.trans hb)
    have HK := Lib.hid (K0.out.trans hk)
    have d0 := hR.c0
    have hnc := hR.hnc
    have hcs := hR.hcs
    have hcm := hR.hcm
    unfold maxLen at hcm
    have hlt : l < cur.size := by omega
    have dg : W1.cell? ⟨g, l, none⟩ = some cur[l] := by rw [Lib.cell_of_heap hR.hg, Array.getElem?_eq_getElem hlt]
    have fg : W1.frozen? ⟨g, l, none⟩ = false := Lib.frozen_of_heap hR.hg _
    clear hR hb hk HG
    go_wp2_with fail
    go_ret
    exact ⟨rfl, (HR.out.poke hB _).trans HB.out HK.out⟩

set_option maxHeartbeats 6400000 in
set_option maxRecDepth 100000 in
theorem write_any (R : Nat → Option Value) (B b : Nat) (v : Value) (bs cs : List Value) (a : Addr) (n c : Nat) (w : World) (h : Bf w B b R v bs) (hBw : B ≤ w.heap.size) (h1 : ∀ v ∈ bs, v.oneCell' = true)
    (hn : cs.length = n) (h0 : 1 ≤ n) (h64 : n ≤ 64) (hab : a.block ≠ b) (hsrc : ∀ j v, cs[j]? = some v → w.cell? (a.add j) = some v) (hav : v.ownBlock ≠ some a.block) (h1c : ∀ v ∈ cs, v.oneCell' = true) (hlim : bs.length + n ≤ 140737488355328) :
    Calls Tryd.prog 34 #[.pointer (some ⟨b, 0, none⟩), .slice (some a) n c] w fun e w' => e = .returned (.tuple #[.int .i64 n, .nilIface]) ∧ WrP w B b R (bs ++ cs) w' := by
  have hinfo : (Tryd.prog.info? 5).map (·.size) = some 1 := by
    obtain ⟨i0, hi, -, hz1, -⟩ := info_parts wu8_info
    rw [hi]; simp [hz1]
  obtain ⟨lr, c2, f2⟩ := h.cell2
  have hB : B ≤ b := h.1
  have h' := h.last 0
  have L0 := Lib.hid (last_bel (w := w) hB 0)
  have K0 := Lib.hid (last_kb h 0)
  have hT := Lib.hid (tg_any R B b n v bs _ h' (.inl h0))
  have hG := Lib.hid (fun hnr => gr_any R B b n v bs _ h' (by rw [last_sz]; exact hBw) h1 h0 (.inl h64) hlim hnr)
  have hsrcK : Hid (∀ W1, KB b w W1 → ∀ j v, cs[j]? = some v → W1.cell? (a.add j) = some v) := Lib.hid (by
    intro W1 hk j u hj
    have hc := hsrc j u hj
    obtain ⟨o, ho⟩ : ∃ o, w.heap[a.block]? = some o := by
      rcases hh : w.heap[a.block]? with _ | o
      · unfold World.cell? at hc
        rw [Lib.block_add, hh] at hc
        cases hc
      · exact ⟨o, rfl⟩
    have := (hk a.block o v ho hab h.cell0 hav).1
    rw [World.cell?_of_block (a := a.add j) (w := w) (w' := W1) (by rw [Lib.block_add, this, ho])]
    exact hc)
  obtain ⟨l, hl⟩ : ∃ l, bs.length = l := ⟨_, rfl⟩
  have hl' : l + n ≤ 140737488355328 := by omega
  have hne : bs ++ cs ≠ [] := by intro e; have := congrArg List.length e; rw [List.length_append, hn] at this; simp at this; omega
  rw [hl] at hT hG
  clear h' hlim hsrc
  go_enter Tryd.func34, Tryd.ntmps34
  go_wp2_with fail
  clear c2 f2
  with_reducible refine hT.out.mono ?_
  rintro e W1 (⟨rfl, g, cap, cur, hR, hb, hk⟩ | ⟨rfl, rfl, hnr⟩)
  · have HR := Lib.hid hR
    have HB := Lib.hid (L0.out.trans hb)
    have HK := Lib.hid (K0.out.trans hk)
    have d0 := hR.c0
    have hnc := hR.hnc
    have hcs := hR.hcs
    have hcm := hR.hcm
    unfold maxLen at hcm
    have hcp := run_copy_row (P := Tryd.prog) W1 26 26 3 5 g l n (cap - l) a n c cur 5 cs Tryd.underlying26 hinfo hR.hg (by rw [hn]; exact (Nat.min_self n).symm) (hsrcK.out _ HK.out) (by rw [hn]; omega) h1c
    rw [hn] at hcp
    clear hR hb hk hT hG
    go_wp2_with fail
    go_ret2
    exact ⟨rfl, (HR.out.laid hB cs hn hne).trans HB.out HK.out⟩
  · have HG := Lib.hid (hG.out hnr)
    clear hnr hT hG
    go_wp2_with fail
    with_reducible refine HG.out.mono ?_
    rintro e W1 ⟨rfl, g, cap, cur, hR, hb, hk⟩
    have HR := Lib.hid hR
    have HB := Lib.hid (L0.out.trans hb)
    have HK := Lib.hid (K0.out.trans hk)
    have d0 := hR.c0
    have hnc := hR.hnc
    have hcs := hR.hcs
    have hcm := hR.hcm
    unfold maxLen at hcm
    have hcp := run_copy_row (P := Tryd.prog) W1 26 26 3 5 g l n (cap - l) a n c cur 5 cs Tryd.underlying26 hinfo hR.hg (by rw [hn]; exact (Nat.min_self n).symm) (hsrcK.out _ HK.out) (by rw [hn]; omega) h1c
    rw [hn] at hcp
    clear hR hb hk HG
    go_wp2_with fail
    go_ret2
    exact ⟨rfl, (HR.out.laid hB cs hn hne).trans HB.out HK.out⟩

theorem byteCells_bts (l : List UInt8) : Lib.byteCells l = bts l := by
  simp [Lib.byteCells, bts]

set_option maxHeartbeats 6400000 in
set_option maxRecDepth 100000 in
theorem writeString_any (R : Nat → Option Value) (B b : Nat) (v : Value) (bs : List Value) (s : ByteArray) (w : World) (h : Bf w B b R v bs) (hBw : B ≤ w.heap.size) (h1 : ∀ v ∈ bs, v.oneCell' = true) (hb0 : bs ≠ []) (hlim : bs.length + s.size ≤ 140737488355328) :
    Calls Tryd.prog 35 #[.pointer (some ⟨b, 0, none⟩), .string s] w fun e w' => e = .returned (.tuple #[.int .i64 s.size, .nilIface]) ∧ WrP w B b R (bs ++ bts s.data.toList) w' := by
  have hinfo : (Tryd.prog.info? 5).map (·.size) = some 1 := by
    obtain ⟨i0, hi, -, hz1, -⟩ := info_parts wu8_info
    rw [hi]; simp [hz1]
  obtain ⟨lr, c2, f2⟩ := h.cell2
  have hB : B ≤ b := h.1
  have h' := h.last 0
  have L0 := Lib.hid (last_bel (w := w) hB 0)
  have K0 := Lib.hid (last_kb h 0)
  have hT := Lib.hid (tg_any R B b s.size v bs _ h' (.inr hb0))
  have hG := Lib.hid (fun hs hnr => gr_any R B b s.size v bs _ h' (by rw [last_sz]; exact hBw) h1 hs (.inr hb0) hlim hnr)
  obtain ⟨l, hl⟩ : ∃ l, bs.length = l := ⟨_, rfl⟩
  obtain ⟨n, hn⟩ : ∃ n, s.size = n := ⟨_, rfl⟩
  have hnl : (bts s.data.toList).length = n := by rw [bts_len, ← hn]; rfl
  have hl' : l + n ≤ 140737488355328 := by omega
  have hne : bs ++ bts s.data.toList ≠ [] := by intro e; exact hb0 (List.append_eq_nil_iff.1 e).1
  have HNE := Lib.hid hne
  have HN := Lib.hid hn
  rw [hl, hn] at hT hG
  by_cases hs0 : n = 0
  · have hce : ∀ d dLen dCap W, (Builtin.copy_ #[26, 9] 3 #[.slice d dLen dCap, .string s]).run Tryd.prog W = .ok (goInt 0) W := fun d dLen dCap W => Lib.run_copy_empty_string W 26 9 3 5 d dLen dCap s Tryd.underlying26 (by rw [hinfo]; rfl) (hn.trans hs0)
    subst hs0
    have hT2 : Hid (Calls Tryd.prog 51 #[.pointer (some ⟨b, 0, none⟩), .int .i64 0] (w.setCell ⟨b, 2, none⟩ (.int .i8 0)) _) := hT
    have hnil : bts s.data.toList = [] := List.eq_nil_of_length_eq_zero hnl
    have HNIL := Lib.hid hnil
    clear h' hlim hT hG hne hnil
    go_enter Tryd.func35, Tryd.ntmps35
    go_wp2_with fail
    clear c2 f2
    with_reducible refine hT2.out.mono ?_
    rintro e W1 (⟨rfl, g, cap, cur, hR, hb, hk⟩ | ⟨rfl, rfl, hnr⟩)
    · have HR := Lib.hid hR
      have HB := Lib.hid (L0.out.trans hb)
      have HK := Lib.hid (K0.out.trans hk)
      have d0 : W1.cell? ⟨b, 0, none⟩ = some (.slice (some ⟨g, 0, none⟩) l cap) := hR.c0
      have hnc : l ≤ cap := hR.hnc
      have hcm := hR.hcm
      unfold maxLen at hcm
      clear hR hb hk hT2
      go_wp2_with fail
      all_goals
        go_ret2
        refine ⟨rfl, ?_⟩
        rw [HNIL.out, List.append_nil]
        exact (HR.out.keep hB hb0).trans HB.out HK.out
    · obtain ⟨_, _, _, _, hlt⟩ := hnr
      omega
  · have hcpy := fun (W1 : World) g cap cur (hg : W1.heap[g]? = some (.cells cur 5 (0, 0))) (hh : l + n ≤ cap) (hz : cur.size = cap) => Lib.run_copy_row_string (P := Tryd.prog) W1 26 9 3 5 g l n (cap - l) s cur 5 Tryd.underlying26 hinfo hg (by omega) (by omega)
    clear h' hlim hne
    go_enter Tryd.func35, Tryd.ntmps35
    go_wp2_with fail
    clear c2 f2
    with_reducible refine hT.out.mono ?_
    rintro e W1 (⟨rfl, g, cap, cur, hR, hb, hk⟩ | ⟨rfl, rfl, hnr⟩)
    · have HR := Lib.hid hR
      have HB := Lib.hid (L0.out.trans hb)
      have HK := Lib.hid (K0.out.trans hk)
      have d0 := hR.c0
      have hnc := hR.hnc
      have hcs := hR.hcs
      have hcm := hR.hcm
      unfold maxLen at hcm
      have hcp := hcpy W1 g cap cur hR.hg hnc hcs
      clear hR hb hk hT hG hcpy
      go_wp2_with fail
      go_ret2
      exact ⟨by rw [HN.out]; rfl, (HR.out.laid hB (bts s.data.toList) hnl HNE.out).trans HB.out HK.out⟩
    · have HG := Lib.hid (hG.out (by omega) hnr)
      clear hnr hT hG
      go_wp2_with fail
      with_reducible refine HG.out.mono ?_
      rintro e W1 ⟨rfl, g, cap, cur, hR, hb, hk⟩
      have HR := Lib.hid hR
      have HB := Lib.hid (L0.out.trans hb)
      have HK := Lib.hid (K0.out.trans hk)
      have d0 := hR.c0
      have hnc := hR.hnc
      have hcs := hR.hcs
      have hcm := hR.hcm
      unfold maxLen at hcm
      have hcp := hcpy W1 g cap cur hR.hg hnc hcs
      clear hR hb hk HG hcpy
      go_wp2_with fail
      go_ret2
      exact ⟨by rw [HN.out]; rfl, (HR.out.laid hB (bts s.data.toList) hnl HNE.out).trans HB.out HK.out⟩
end Go.Proofs.YtclnpglnomfjkaaDoor

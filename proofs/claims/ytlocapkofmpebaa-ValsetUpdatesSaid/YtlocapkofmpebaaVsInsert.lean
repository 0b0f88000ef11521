/- What this text proves: the contract of slices.Insert of one element at validators, on a row of one's own. The conditions are how the row and the element lie in memory. -/
import Derived.Test.YtlocapkofmpebaaVsDelete
import Derived.Shelf.Spec.SlicesInsertGrow
namespace Go.Proofs.Ytlocapkofmpebaa
open Go.RowKit Go.Lib
set_option linter.unusedVariables false
set_option linter.unusedSimpArgs false

/-- copy at validators. -/
theorem run_copy_vals (w : World) (ty : TypeId) (b o dLen dCap : Nat) (a : Addr) (sLen sCap m : Nat) (cs : List Value) (hm : m = Nat.min sLen dLen) (hn : cs.length = m * 2)
    (hsrc : ∀ j v, cs[j]? = some v → w.cell? (a.add j) = some v) (hc : ∀ j, j < cs.length → (w.cell? ⟨b, o + j, none⟩).isSome = true) (hf : ∀ j, j < cs.length → w.frozen? ⟨b, o + j, none⟩ = false) (h1 : ∀ v ∈ cs, v.oneCell' = true) :
    (Builtin.copy_ #[22, 22] ty #[.slice (some ⟨b, o, none⟩) dLen dCap, .slice (some a) sLen sCap]).run Try.prog w = .ok (goInt m) (w.setCells b o cs) := by
  have hl := run_loadCells_list (P := Try.prog) w a cs hsrc
  have hst := run_storeCells_cells (P := Try.prog) b o cs 0 w (by simpa using hc) (by simpa using hf) h1
  obtain ⟨i0, hi, hz0, hz1, hz2⟩ := info_parts val_info
  simp [Builtin.copy_, run_underlying Try.underlying22, Builtin.lenOf, Builtin.firstCells, sizeOf, typeInfo, hi, hz1, ← hm, ← hn, hl, hst]

theorem vCells_cons (v : Int × Int) (l : List (Int × Int)) : vCells (v :: l) = .int .u64 v.1 :: .int .i64 v.2 :: vCells l := rfl

/-- What stands at a place behind the three parts. -/
theorem three_parts (l : List (Int × Int)) (i : Nat) (v : Int × Int) (hi : i ≤ l.length) (W : World) (g : Nat)
    (h1 : ∀ x, x < i * 2 → W.cell? ⟨g, x, none⟩ = (vCells l)[x]?) (h2 : W.cell? ⟨g, i * 2, none⟩ = some (.int .u64 v.1)) (h3 : W.cell? ⟨g, i * 2 + 1, none⟩ = some (.int .i64 v.2))
    (h4 : ∀ x, x < (l.length - i) * 2 → W.cell? ⟨g, (i + 1) * 2 + x, none⟩ = (vCells l)[i * 2 + x]?) :
    ∀ x, x < (l.take i ++ v :: l.drop i).length * 2 → W.cell? ⟨g, x, none⟩ = (vCells (l.take i ++ v :: l.drop i))[x]? := by
  intro x hx
  have hlen : (l.take i ++ v :: l.drop i).length = l.length + 1 := by simp; omega
  rw [hlen] at hx
  rw [vCells_app, vCells_cons, ← vCells_take, ← vCells_drop]
  have hl1 : ((vCells l).take (i * 2)).length = i * 2 := by rw [List.length_take, vCells_len]; omega
  by_cases a1 : x < i * 2
  · rw [h1 x a1, List.getElem?_append_left (by omega), List.getElem?_take, if_pos a1]
  · rw [List.getElem?_append_right (by omega), hl1]
    by_cases a2 : x = i * 2
    · subst a2; rw [h2, Nat.sub_self]; rfl
    · by_cases a3 : x = i * 2 + 1
      · subst a3; rw [h3, show i * 2 + 1 - i * 2 = 1 from by omega]; rfl
      · obtain ⟨y, rfl⟩ : ∃ y, x = (i + 1) * 2 + y := ⟨x - (i + 1) * 2, by omega⟩
        rw [h4 y (by omega), show (i + 1) * 2 + y - i * 2 = y + 1 + 1 from by omega, List.getElem?_cons_succ, List.getElem?_cons_succ, List.getElem?_drop]

theorem Bk.sets_far {g g' : Nat} {t : TypeId} {cs : Array Value} (hne : g' ≠ g) : ∀ (vs : List Value) (o : Nat) (w : World), Bk w g' t cs → Bk (w.setCells g o vs) g' t cs
  | [], _, _, h => h
  | v :: r, o, w, h => Bk.sets_far hne r (o + 1) _ (h.far hne v)

def InsPost (B : Nat) (l : List (Int × Int)) (i : Nat) (v : Int × Int) (w : World) (e : Ending) (w' : World) : Prop := ∃ v', e = .returned v' ∧ VOwn w' B v' (l.take i ++ v :: l.drop i) ∧ Below B w w'

set_option maxRecDepth 100000 in
set_option maxHeartbeats 2000000 in
theorem insert_end (B : Nat) (v : Value) (l : List (Int × Int)) (x y : Int) (vb : Nat) (tA : TypeId) (w : World) (hl : l.length ≤ 1000000) (hv : VOwn w B v l) (hB : B ≤ w.heap.size) (hvb : Bk w vb tA #[.int .u64 x, .int .i64 y]) :
    Calls Try.prog 27 #[v, .int .i64 l.length, .slice (some ⟨vb, 0, none⟩) 1 1] w (InsPost B l l.length (x, y) w) := by
  obtain ⟨i0, hi0, hz0, hz1, hz2⟩ := info_parts val_info
  have O := Lib.hid hv
  have S : Hid (Sl w w.heap.size 2 (some ⟨vb, 0, none⟩) 1 [.int .u64 x, .int .i64 y]) := Lib.hid ⟨rfl, fun _ => ⟨vb, 0, rfl, hvb.lt, fun j u hj => by rw [Nat.zero_add, hvb.cell]; simpa using hj⟩⟩
  have fin : ∀ v10 w10, w10.ownsRow B 26 2 v10 (l.length + 1) (vCells l ++ [.int .u64 x, .int .i64 y]) → Below B w w10 → InsPost B l l.length (x, y) w (.returned v10) w10 := by
    intro v10 w10 h h'
    refine ⟨v10, rfl, ?_, h'⟩
    rw [List.take_length, List.drop_length]
    unfold VOwn
    rw [vCells_app, List.length_append]
    exact h
  have F := Lib.hid fin
  obtain ⟨Q, hQ⟩ : ∃ Q, InsPost B l l.length (x, y) w = Q := ⟨_, rfl⟩
  rw [hQ] at F ⊢
  clear fin hQ hvb
  obtain ⟨n, hn⟩ : ∃ n, l.length = n := ⟨_, rfl⟩
  rw [hn] at hl F ⊢
  unfold VOwn at O hv
  rw [hn] at O hv
  rcases hv.2 with ⟨rfl, h⟩ | ⟨g, cap, cur, rfl, hbg, hheap, hnc, hcm, hcs, htake⟩
  · subst h
    clear hv
    go_enter Try.func27, Try.ntmps27
    go_wp2_with (refine wpList_append_sl w (by rfl) _ _ 22 (by rfl) B 26 i0 _ 2 16 Try.underlying22 hi0 hz0 hz1 hz2 rfl (by omega) (.slice none 0 0) 0 (vCells l) (by rfl) O.out (some ⟨vb, 0, none⟩) 1 1 [.int .u64 x, .int .i64 y] (by rfl) S.out (by intro u hu; simp at hu; rcases hu with rfl | rfl <;> rfl) (by unfold maxLen; omega) (by omega) hB ?_; intro v10 w10 ho_ hg_ hv_; have O10 := Lib.hid ho_; have L10 : Hid (Below B w w10) := Lib.hid ((Below.refl B w).grown hg_ hB (fun k hk => (own_cells O.out hk).1)); clear ho_ hg_ hv_)
    exact F.out _ _ O10.out L10.out
  · have hnc' : (n : Int) ≤ (cap : Int) := by omega
    have hcm' : (cap : Int) ≤ 9223372036854775807 := by unfold maxLen at hcm; omega
    clear hv hcs htake hheap hcm
    go_enter Try.func27, Try.ntmps27
    go_wp2_with (refine wpList_append_sl w (by rfl) _ _ 22 (by rfl) B 26 i0 _ 2 16 Try.underlying22 hi0 hz0 hz1 hz2 rfl (by omega) (.slice (some ⟨g, 0, none⟩) n cap) n (vCells l) (by rfl) O.out (some ⟨vb, 0, none⟩) 1 1 [.int .u64 x, .int .i64 y] (by rfl) S.out (by intro u hu; simp at hu; rcases hu with rfl | rfl <;> rfl) (by unfold maxLen; omega) (by omega) hB ?_; intro v10 w10 ho_ hg_ hv_; have O10 := Lib.hid ho_; have L10 : Hid (Below B w w10) := Lib.hid ((Below.refl B w).grown hg_ hB (fun k hk => (own_cells O.out hk).1)); clear ho_ hg_ hv_)
    all_goals (exact F.out _ _ O10.out L10.out)

set_option maxRecDepth 100000 in
set_option maxHeartbeats 2000000 in
theorem insert_shift (B : Nat) (l : List (Int × Int)) (i : Nat) (x y : Int) (vb : Nat) (tA : TypeId) (w : World) (g cap : Nat) (hi : i < l.length) (hroom : l.length < cap) (hl : l.length ≤ 1000000) (hv : VOwn w B (.slice (some ⟨g, 0, none⟩) l.length cap) l) (hvg : vb ≠ g)
    (hvb : Bk w vb tA #[.int .u64 x, .int .i64 y]) :
    Calls Try.prog 27 #[.slice (some ⟨g, 0, none⟩) l.length cap, .int .i64 i, .slice (some ⟨vb, 0, none⟩) 1 1] w (InsPost B l i (x, y) w) := by
  rcases hv.2 with ⟨h, _⟩ | ⟨g', cap', cur, h', hbg, hheap, hnc, hcm, hcs, htake⟩
  · cases h
  simp only [Value.slice.injEq, Option.some.injEq, Addr.mk.injEq, and_true, true_and] at h'
  obtain ⟨rfl, rfl⟩ := h'
  have hb : Bk w g 26 cur := hheap
  have hcell : ∀ t, t < l.length * 2 → w.cell? ⟨g, t, none⟩ = (vCells l)[t]? := fun t ht => World.ownsRow.cellAt hv t ht
  have hov : ∀ lb cb, (callFunc 29 #[.slice (some ⟨vb, 0, none⟩) 1 1, .slice (some ⟨g, (i + 1) * 2, none⟩) lb cb]).run Try.prog w = .ok (.value (.bool false)) w := fun lb cb => by
    rw [run_callFunc_extern Try.func29 (by kernel_rfl) (by kernel_rfl) (by kernel_rfl) (e := Extern.SlicesOverlaps.overlaps #[22, 22] #[4]) (by kernel_rfl),
      Lib.run_overlaps_apart w 22 4 26 Try.underlying22 2 (fun _ => by rfl) ⟨vb, 0, none⟩ ⟨g, (i + 1) * 2, none⟩ 1 1 lb cb hvg tA 26 2 cur.size (by simp [World.shape?, show w.heap[vb]? = _ from hvb]) (by simp [World.shape?, hheap]) (by omega) (hvb.frozen _) (hvb.frozen _)]
    rfl
  obtain ⟨n, hn⟩ : ∃ n, l.length = n := ⟨_, rfl⟩
  have hdl : ((vCells l).drop (i * 2)).length = (n - i) * 2 := by rw [List.length_drop, vCells_len, hn]; omega
  rw [hn] at hi hroom hl hcell hnc
  have hcp1 : ∀ ty dc sc, (Builtin.copy_ #[22, 22] ty #[.slice (some ⟨g, (i + 1) * 2, none⟩) (n - i) dc, .slice (some ⟨g, i * 2, none⟩) (n + 1 - i) sc]).run Try.prog w.drew = .ok (goInt ((n - i : Nat) : Int)) (w.drew.setCells g ((i + 1) * 2) ((vCells l).drop (i * 2))) := fun ty dc sc =>
    run_copy_vals w.drew ty g ((i + 1) * 2) (n - i) dc ⟨g, i * 2, none⟩ (n + 1 - i) sc (n - i) ((vCells l).drop (i * 2)) (by simp only [Nat.min_def]; split <;> omega) hdl
      (fun j v hj => by
        rw [Addr.add_lit]
        rw [List.getElem?_drop] at hj
        have h1 : i * 2 + j < n * 2 := by
          have := (List.getElem?_eq_some_iff.1 hj).1
          rw [vCells_len, hn] at this
          exact this
        exact (hcell _ h1).trans hj)
      (fun j hj => by rw [hdl] at hj; rw [Bk.cell (w := w.drew) hb, Array.getElem?_eq_getElem (by omega)]; rfl)
      (fun j hj => Bk.frozen (w := w.drew) hb _) (fun v hv => vCells_one l v (List.mem_of_mem_drop hv))
  obtain ⟨W1, hW1⟩ : ∃ W1, W1 = w.drew.setCells g ((i + 1) * 2) ((vCells l).drop (i * 2)) := ⟨_, rfl⟩
  obtain ⟨cur1, hb1, hs1⟩ := Bk.sets ((vCells l).drop (i * 2)) ((i + 1) * 2) w.drew cur hb
  have hvb1 : Bk W1 vb tA #[.int .u64 x, .int .i64 y] := by
    rw [hW1]
    exact Bk.sets_far hvg _ _ w.drew hvb
  rw [← hW1] at hcp1 hb1
  have hcp2 : ∀ (W : World), W.heap = W1.heap → ∀ ty dc, (Builtin.copy_ #[22, 22] ty #[.slice (some ⟨g, i * 2, none⟩) (n + 1 - i) dc, .slice (some ⟨vb, 0, none⟩) 1 1]).run Try.prog W = .ok (goInt 1) (W.setCells g (i * 2) [.int .u64 x, .int .i64 y]) := fun W hW ty dc => by
    have hb1' : Bk W g 26 cur1 := by unfold Bk; rw [hW]; exact hb1
    have hvb1' : Bk W vb tA #[.int .u64 x, .int .i64 y] := by unfold Bk; rw [hW]; exact hvb1
    exact run_copy_vals W ty g (i * 2) (n + 1 - i) dc ⟨vb, 0, none⟩ 1 1 1 [.int .u64 x, .int .i64 y] (by simp only [Nat.min_def]; split <;> omega) rfl
      (fun j v hj => by rw [Addr.add_lit, Nat.zero_add, hvb1'.cell]; simpa using hj)
      (fun j hj => by simp at hj; rw [hb1'.cell, Array.getElem?_eq_getElem (by omega)]; rfl)
      (fun j hj => hb1'.frozen _) (by intro u hu; simp at hu; rcases hu with rfl | rfl <;> rfl)
  have fin : ∀ (W : World), W.heap = W1.heap → Below B w W → InsPost B l i (x, y) w (.returned (.slice (some ⟨g, 0, none⟩) (n + 1) cap)) (W.setCells g (i * 2) [.int .u64 x, .int .i64 y]) := by
    intro W hW hbel
    have hb1' : Bk W g 26 cur1 := by unfold Bk; rw [hW]; exact hb1
    have hcW : ∀ a, W.cell? a = W1.cell? a := fun a => by simp only [World.cell?, hW]
    have hlen : (l.take i ++ (x, y) :: l.drop i).length = n + 1 := by simp; omega
    refine ⟨_, rfl, ?_, Below.sets hbg _ _ _ hbel⟩
    obtain ⟨cur2, hb2, hs2⟩ := Bk.sets [.int .u64 x, .int .i64 y] (i * 2) W cur1 hb1'
    have hin := World.cell?_setCells_in g [.int .u64 x, .int .i64 y] (i * 2) W (fun j hj => by simp at hj; rw [hb1'.cell, Array.getElem?_eq_getElem (by omega)]; rfl)
    rw [← hlen]
    refine vown_of hbg hb2 (by omega) hcm (by rw [hs2, hs1, hcs]) (three_parts l i (x, y) (by omega) _ g ?_ (by simpa using hin 0 (by simp)) (by simpa using hin 1 (by simp)) ?_)
    · intro k hk
      rw [World.cell?_setCells_out _ _ _ _ _ (fun _ _ => .inl (by show k < i * 2; omega)), hcW, hW1, World.cell?_setCells_out _ _ _ _ _ (fun _ _ => .inl (by show k < (i + 1) * 2; omega))]
      exact hcell k (by omega)
    · intro k hk
      rw [World.cell?_setCells_out _ _ _ _ _ (fun _ _ => .inr (by show i * 2 + 2 ≤ (i + 1) * 2 + k; omega)), hcW, hW1]
      have hk' : k < ((vCells l).drop (i * 2)).length := by rw [hdl]; omega
      rw [World.cell?_setCells_in g _ ((i + 1) * 2) w.drew (fun j hj => by rw [hdl] at hj; rw [Bk.cell (w := w.drew) hb, Array.getElem?_eq_getElem (by omega)]; rfl) k hk', ← List.getElem?_eq_getElem hk', List.getElem?_drop]
  have F := Lib.hid fin
  have HB := Lib.hid hbg
  have HW := Lib.hid hW1
  obtain ⟨Q, hQ⟩ : ∃ Q, InsPost B l i (x, y) w = Q := ⟨_, rfl⟩
  rw [hQ] at F
  rw [hQ, hn]
  have hz2 : ¬ ((i : Int) = (n : Int)) := by omega
  have hz3 : (n : Int) + 1 ≤ (cap : Int) := by omega
  have hcm' : (cap : Int) ≤ 9223372036854775807 := by unfold maxLen at hcm; omega
  have hw1 : IntKind.i64.wrap ((i : Int) + 1) = (i : Int) + 1 := by rw [IntKind.wrap_i64]; omega
  have hb5 : (i : Int) ≤ (n : Int) + 1 := by omega
  have hp1 : (0 : Int) ≤ (i : Int) + 1 := by omega
  have hb3 : (i : Int) ≤ (n : Int) := by omega
  have htn : ((i : Int) + 1).toNat = i + 1 := by omega
  have hb2 : ¬ (cap = i + 1) := by omega
  have hb4 : ¬ (cap = i) := by omega
  have mixed : Try.prog.follows Departure.mixedOrders = true := by kernel_rfl
  clear fin hQ hvb hcell hheap hb hcs htake hcm hdl hb1 hs1 hvb1 hv hbg hW1 hn
  go_enter Try.func27, Try.ntmps27
  go_wp2_with (simp only [hov])
  go_region_law_o (refine step_copy_runI rfl _ _ 22 22 rfl _ _ (by simp [Act.eval, Act.put]) (by simp [Act.eval, Act.put]) (hcp1 _ _ _) ?_)
  go_wp2_with (at_builtin; refine wpList_copy_runI _ rfl _ _ 22 22 rfl _ _ rfl rfl (hcp2 _ rfl _ _) ?_)
  exact F.out W1 rfl (by rw [HW.out]; exact Below.sets HB.out _ _ _ (Below.drew (Below.refl _ _)))

set_option maxRecDepth 100000 in
set_option maxHeartbeats 4000000 in
theorem insert_grow (B : Nat) (l : List (Int × Int)) (i : Nat) (x y : Int) (vb : Nat) (tA : TypeId) (w : World) (g : Nat) (hi : i < l.length) (hl : l.length ≤ 1000000) (hv : VOwn w B (.slice (some ⟨g, 0, none⟩) l.length l.length) l) (hB : B ≤ w.heap.size)
    (hvb : Bk w vb tA #[.int .u64 x, .int .i64 y]) :
    Calls Try.prog 27 #[.slice (some ⟨g, 0, none⟩) l.length l.length, .int .i64 i, .slice (some ⟨vb, 0, none⟩) 1 1] w (InsPost B l i (x, y) w) := by
  obtain ⟨i0, hi0, hz0, hz1, hz2⟩ := info_parts val_info
  rcases hv.2 with ⟨h, _⟩ | ⟨g', cap', cur, h', hbg, hheap, hnc, hcm, hcs, htake⟩
  · cases h
  simp only [Value.slice.injEq, Option.some.injEq, Addr.mk.injEq, and_true, true_and] at h'
  obtain ⟨rfl, rfl⟩ := h'
  have hb : Bk w g 26 cur := hheap
  have hcell : ∀ t, t < l.length * 2 → w.cell? ⟨g, t, none⟩ = (vCells l)[t]? := fun t ht => World.ownsRow.cellAt hv t ht
  obtain ⟨n, hn⟩ : ∃ n, l.length = n := ⟨_, rfl⟩
  rw [hn] at hi hl hcell hnc hcs hcm
  have hdl : ((vCells l).drop (i * 2)).length = (n - i) * 2 := by rw [List.length_drop, vCells_len, hn]; omega
  have htl : ((vCells l).take (i * 2)).length = i * 2 := by rw [List.length_take, vCells_len, hn]; omega
  have hold : (Builtin.firstCells i0.size i (.slice (some ⟨g, 0, none⟩) i n)).run Try.prog w.drew = .ok ((vCells l).take (i * 2)).toArray w.drew := by
    rw [hz1]
    exact run_firstCells_some w.drew 2 i ⟨g, 0, none⟩ i n ((vCells l).take (i * 2)) (by rw [htl]) (fun j v hj => by
      rw [Addr.add_lit, Nat.zero_add]
      rw [List.getElem?_take] at hj
      split at hj
      · rename_i h
        exact (hcell j (by omega)).trans hj
      · cases hj)
  have hkk : (n : Int) + 1 - (i : Int) = ((n + 1 - i : Nat) : Int) := by omega
  have hik : i + (n + 1 - i) = n + 1 := by omega
  have hrz : ∀ ty, (Builtin.append_ #[22, 3] ty #[.slice (some ⟨g, 0, none⟩) i n, .int .i64 ((n : Int) + 1 - (i : Int))]).run Try.prog w =
      .ok (.slice (some ⟨w.heap.size, 0, none⟩) (n + 1) (grownCap w (n + 1) n 26)) (w.drew.alloc (.cells (((vCells l).take (i * 2)).toArray ++ Builtin.zeroCells (Value.agg #[.int .u64 0, .int .i64 0]).cells (n + 1 - i) ++ Builtin.zeroCells (Value.agg #[.int .u64 0, .int .i64 0]).cells (grownCap w (n + 1) n 26 - (n + 1))) 26)) := fun ty => by
    have h := Lib.run_append_grow_zeros w 22 3 ty 26 i0 _ .i64 .i64 Try.underlying22 Try.underlying3 hi0 hz0 (some ⟨g, 0, none⟩) i n ((vCells l).take (i * 2)) hold (n + 1 - i) (by omega) (by omega) (by omega) (by omega) (by rw [hz2]; omega) (by rw [hz2, hik]; exact growslice_fits (by omega) (by omega))
    rw [hik] at h
    rw [hkk]
    exact h
  obtain ⟨G, hG⟩ : ∃ G, G = grownCap w (n + 1) n 26 := ⟨_, rfl⟩
  obtain ⟨ROW, hROW⟩ : ∃ ROW : Array Value, ROW = ((vCells l).take (i * 2)).toArray ++ Builtin.zeroCells (Value.agg #[.int .u64 0, .int .i64 0]).cells (n + 1 - i) ++ Builtin.zeroCells (Value.agg #[.int .u64 0, .int .i64 0]).cells (G - (n + 1)) := ⟨_, rfl⟩
  rw [← hG] at hrz
  rw [← hROW] at hrz
  have hGn : n + 1 ≤ G := by rw [hG]; exact grownCap_ge w _ _ _
  have hGm : G ≤ maxLen := by
    have := grownCap_le_maxLen w (n + 1) n 26 (by unfold maxLen; omega)
    rw [← hG] at this
    exact this
  have hRl : ROW.size = G * 2 := by
    have zs : ∀ k, (Builtin.zeroCells (Value.agg #[.int .u64 0, .int .i64 0]).cells k).size = k * 2 := fun k => by simp [Builtin.zeroCells, Value.cells]
    rw [hROW]
    simp only [Array.size_append, List.size_toArray, htl, zs]
    omega
  have hRt : ∀ t, t < i * 2 → ROW[t]? = (vCells l)[t]? := fun t ht => by
    rw [hROW, Array.append_assoc, Array.getElem?_append_left (by rw [List.size_toArray, htl]; exact ht), List.getElem?_toArray, List.getElem?_take, if_pos ht]
  obtain ⟨N, hN⟩ : ∃ N, w.heap.size = N := ⟨_, rfl⟩
  rw [hN] at hrz hB
  have hgN : g < N := by rw [← hN]; exact hb.lt
  have hvN : vb < N := by rw [← hN]; exact hvb.lt
  obtain ⟨W1, hW1⟩ : ∃ W1, W1 = w.drew.alloc (.cells ROW 26) := ⟨_, rfl⟩
  rw [← hW1] at hrz
  have hb1 : Bk W1 N 26 ROW := by rw [hW1, ← hN]; exact Bk.new w.drew _ _
  have hg1 : Bk W1 g 26 cur := by rw [hW1]; exact Bk.alloc (w := w.drew) hb _
  have hv1 : Bk W1 vb tA #[.int .u64 x, .int .i64 y] := by rw [hW1]; exact Bk.alloc (w := w.drew) hvb _
  have hcpA : ∀ (W : World), W.heap = W1.heap → ∀ ty dc, (Builtin.copy_ #[22, 22] ty #[.slice (some ⟨N, i * 2, none⟩) (n + 1 - i) dc, .slice (some ⟨vb, 0, none⟩) 1 1]).run Try.prog W = .ok (goInt 1) (W.setCells N (i * 2) [.int .u64 x, .int .i64 y]) := fun W hW ty dc => by
    have hb1' : Bk W N 26 ROW := by unfold Bk; rw [hW]; exact hb1
    have hvb1' : Bk W vb tA #[.int .u64 x, .int .i64 y] := by unfold Bk; rw [hW]; exact hv1
    exact run_copy_vals W ty N (i * 2) (n + 1 - i) dc ⟨vb, 0, none⟩ 1 1 1 [.int .u64 x, .int .i64 y] (by simp only [Nat.min_def]; split <;> omega) rfl
      (fun j v hj => by rw [Addr.add_lit, Nat.zero_add, hvb1'.cell]; simpa using hj)
      (fun j hj => by simp at hj; rw [hb1'.cell, Array.getElem?_eq_getElem (by omega)]; rfl)
      (fun j hj => hb1'.frozen _) (by intro u hu; simp at hu; rcases hu with rfl | rfl <;> rfl)
  obtain ⟨ROW2, hb2, hs2⟩ := Bk.sets [.int .u64 x, .int .i64 y] (i * 2) W1 ROW hb1
  have hg2 := Bk.sets_far (g := N) (g' := g) (by omega) [.int .u64 x, .int .i64 y] (i * 2) W1 hg1
  obtain ⟨W2, hW2⟩ : ∃ W2, W2 = W1.setCells N (i * 2) [.int .u64 x, .int .i64 y] := ⟨_, rfl⟩
  rw [← hW2] at hb2 hg2
  have hcpB : ∀ (W : World), W.heap = W2.heap → ∀ ty dc sc, (Builtin.copy_ #[22, 22] ty #[.slice (some ⟨N, (i + 1) * 2, none⟩) (n - i) dc, .slice (some ⟨g, i * 2, none⟩) (n - i) sc]).run Try.prog W = .ok (goInt ((n - i : Nat) : Int)) (W.setCells N ((i + 1) * 2) ((vCells l).drop (i * 2))) := fun W hW ty dc sc => by
    have hb2' : Bk W N 26 ROW2 := by unfold Bk; rw [hW]; exact hb2
    have hg2' : Bk W g 26 cur := by unfold Bk; rw [hW]; exact hg2
    exact run_copy_vals W ty N ((i + 1) * 2) (n - i) dc ⟨g, i * 2, none⟩ (n - i) sc (n - i) ((vCells l).drop (i * 2)) (by simp only [Nat.min_def]; split <;> omega) hdl
      (fun j v hj => by
        rw [Addr.add_lit]
        rw [List.getElem?_drop] at hj
        have h1 : i * 2 + j < n * 2 := by
          have := (List.getElem?_eq_some_iff.1 hj).1
          rw [vCells_len, hn] at this
          exact this
        have h2 := hcell _ h1
        rw [hb.cell] at h2
        rw [hg2'.cell, h2]
        exact hj)
      (fun j hj => by rw [hdl] at hj; rw [hb2'.cell, Array.getElem?_eq_getElem (by omega)]; rfl)
      (fun j hj => hb2'.frozen _) (fun v hv => vCells_one l v (List.mem_of_mem_drop hv))
  have fin : ∀ (W : World), W.heap = W2.heap → Below B w W → InsPost B l i (x, y) w (.returned (.slice (some ⟨N, 0, none⟩) (n + 1) G)) (W.setCells N ((i + 1) * 2) ((vCells l).drop (i * 2))) := by
    intro W hW hbel
    have hb2' : Bk W N 26 ROW2 := by unfold Bk; rw [hW]; exact hb2
    have hcW : ∀ a, W.cell? a = W2.cell? a := fun a => by simp only [World.cell?, hW]
    have hlen : (l.take i ++ (x, y) :: l.drop i).length = n + 1 := by simp; omega
    refine ⟨_, rfl, ?_, Below.sets hB _ _ _ hbel⟩
    obtain ⟨cur3, hb3, hs3⟩ := Bk.sets ((vCells l).drop (i * 2)) ((i + 1) * 2) W ROW2 hb2'
    have hin := World.cell?_setCells_in N [.int .u64 x, .int .i64 y] (i * 2) W1 (fun j hj => by simp at hj; rw [hb1.cell, Array.getElem?_eq_getElem (by omega)]; rfl)
    rw [← hW2] at hin
    rw [← hlen]
    refine vown_of hB hb3 (by omega) hGm (by rw [hs3, hs2, hRl]) (three_parts l i (x, y) (by omega) _ N ?_ ?_ ?_ ?_)
    · intro k hk
      rw [World.cell?_setCells_out _ _ _ _ _ (fun _ _ => .inl (by show k < (i + 1) * 2; omega)), hcW, hW2, World.cell?_setCells_out _ _ _ _ _ (fun _ _ => .inl (by show k < i * 2; omega)), hb1.cell]
      exact hRt k hk
    · rw [World.cell?_setCells_out _ _ _ _ _ (fun _ _ => .inl (by show i * 2 < (i + 1) * 2; omega)), hcW]
      simpa using hin 0 (by simp)
    · rw [World.cell?_setCells_out _ _ _ _ _ (fun _ _ => .inl (by show i * 2 + 1 < (i + 1) * 2; omega)), hcW]
      simpa using hin 1 (by simp)
    · intro k hk
      have hk' : k < ((vCells l).drop (i * 2)).length := by rw [hdl]; omega
      rw [World.cell?_setCells_in N _ ((i + 1) * 2) W (fun j hj => by rw [hdl] at hj; rw [hb2'.cell, Array.getElem?_eq_getElem (by omega)]; rfl) k hk', ← List.getElem?_eq_getElem hk', List.getElem?_drop]
  have F := Lib.hid fin
  have HB := Lib.hid hB
  have HW1 := Lib.hid hW1
  have HW2 := Lib.hid hW2
  have HN := Lib.hid hN
  obtain ⟨Q, hQ⟩ : ∃ Q, InsPost B l i (x, y) w = Q := ⟨_, rfl⟩
  rw [hQ] at F
  rw [hQ, hn]
  have hz2 : ¬ ((i : Int) = (n : Int)) := by omega
  have hnl : (n : Int) < (n : Int) + 1 := by omega
  have hG63 : G ≤ 9223372036854775807 := by unfold maxLen at hGm; omega
  have hGi : ¬ (G = i) := by omega
  have hGim : ¬ (G = i + 1) := by omega
  have hci : ¬ (n = i) := by omega
  have hw1 : IntKind.i64.wrap ((i : Int) + 1) = (i : Int) + 1 := by rw [IntKind.wrap_i64]; omega
  have hw3 : IntKind.i64.wrap ((n : Int) + 1) = (n : Int) + 1 := by rw [IntKind.wrap_i64]; omega
  have hw4 : IntKind.i64.wrap ((n : Int) + 1 - (i : Int)) = (n : Int) + 1 - (i : Int) := by rw [IntKind.wrap_i64]; omega
  have hp1 : (0 : Int) ≤ (i : Int) + 1 := by omega
  have hb3 : (i : Int) ≤ (n : Int) := by omega
  have hb5 : (i : Int) ≤ (n : Int) + 1 := by omega
  have htn : ((i : Int) + 1).toNat = i + 1 := by omega
  have mixed : Try.prog.follows Departure.mixedOrders = true := by kernel_rfl
  clear fin hQ hvb hcell hheap hb hcs htake hcm hdl htl hb1 hg1 hv1 hb2 hg2 hs2 hv hbg hn hold hkk hik hG hROW hRl hRt hGm hW2 hW1 hB hN
  go_enter Try.func27, Try.ntmps27
  go_wp2_with (first
    | (at_builtin; refine Lib.wpList_append_run _ rfl _ _ _ _ rfl _ _ rfl rfl _ _ (hrz _) ?_)
    | (at_builtin; refine wpList_copy_runI _ rfl _ _ 22 22 rfl _ _ rfl rfl (hcpA _ rfl _ _) ?_))
  rw [← HW2.out]
  go_region_law_o (refine step_copy_runI rfl _ _ 22 22 rfl (.slice (some ⟨N, (i + 1) * 2, none⟩) (n - i) (G - (i + 1))) (.slice (some ⟨g, i * 2, none⟩) (n - i) (n - i)) (by simp [Act.eval, Act.put]) (by simp [Act.eval, Act.put]) (hcpB W2.drew rfl 3 (G - (i + 1)) (n - i)) ?_)
  go_wp2
  exact F.out W2.drew rfl (Below.drew (by rw [HW2.out]; refine Below.sets HB.out _ _ _ ?_; rw [HW1.out]; exact Below.alloc (Below.drew (Below.refl _ _)) (by show B ≤ w.heap.size; rw [HN.out]; exact HB.out) _))

theorem insert_any (B : Nat) (v : Value) (l : List (Int × Int)) (i : Nat) (x y : Int) (vb : Nat) (tA : TypeId) (w : World) (hi : i ≤ l.length) (hl : l.length ≤ 1000000) (hv : VOwn w B v l) (hB : B ≤ w.heap.size) (hvb : Bk w vb tA #[.int .u64 x, .int .i64 y]) (hne : some vb ≠ v.ownBlock) :
    Calls Try.prog 27 #[v, .int .i64 i, .slice (some ⟨vb, 0, none⟩) 1 1] w (InsPost B l i (x, y) w) := by
  rcases Nat.lt_or_ge i l.length with h | h
  · rcases hv.2 with ⟨_, h'⟩ | ⟨g, cap, cur, rfl, hbg, hheap, hnc, hcm, hcs, htake⟩
    · omega
    · rcases Nat.lt_or_ge l.length cap with hc | hc
      · exact insert_shift B l i x y vb tA w g cap h hc hl hv (fun e => hne (by rw [e]; rfl)) hvb
      · obtain rfl : cap = l.length := by omega
        exact insert_grow B l i x y vb tA w g h hl hv hB hvb
  · obtain rfl : i = l.length := by omega
    exact insert_end B v l x y vb tA w hl hv hB hvb
end Go.Proofs.Ytlocapkofmpebaa

/- What this text proves: the contract of slices.Delete of one element at validators, on a row of one's own. The conditions are how the row lies in memory. -/
import Derived.Test.YtlocapkofmpebaaVsClone
import Derived.Deep.LoopGhost
import Derived.Deep.RegionLaw
import Derived.Shelf.RegionOpenPlain
import Derived.Lib.SliceRun
import Derived.Laws.IdiomCopy
namespace Go.Proofs.Ytlocapkofmpebaa
open Go.RowKit
set_option linter.unusedVariables false
set_option linter.unusedSimpArgs false

theorem Bk.sets {t : TypeId} {g : Nat} : ∀ (vs : List Value) (o : Nat) (w : World) (cs : Array Value), Bk w g t cs → ∃ cs', Bk (w.setCells g o vs) g t cs' ∧ cs'.size = cs.size
  | [], _, _, cs, h => ⟨cs, h, rfl⟩
  | v :: r, o, w, cs, h => by
    obtain ⟨cs', h1, h2⟩ := Bk.sets r (o + 1) (w.setCell ⟨g, o, none⟩ v) _ (h.set_ o v)
    exact ⟨cs', h1, by rw [h2]; simp⟩
theorem Below.sets {B g : Nat} {a : World} (hg : B ≤ g) : ∀ (vs : List Value) (o : Nat) (w : World), Below B a w → Below B a (w.setCells g o vs)
  | [], _, _, h => h
  | v :: r, o, w, h => Below.sets hg r (o + 1) _ (Below.setCell h hg v)
theorem heap_sets {g : Nat} : ∀ (vs : List Value) (o : Nat) (w : World), (w.setCells g o vs).heap.size = w.heap.size
  | [], _, _ => rfl
  | v :: r, o, w => by rw [World.setCells, heap_sets r (o + 1)]; simp
theorem some_sets {g : Nat} (vs : List Value) (o : Nat) (w : World) (cs : Array Value) (t : TypeId) (h : Bk w g t cs) (j : Nat) (hj : j < cs.size) : ((w.setCells g o vs).cell? ⟨g, j, none⟩).isSome = true := by
  obtain ⟨cs', h1, h2⟩ := Bk.sets vs o w cs h
  rw [h1.cell, Array.getElem?_eq_getElem (by omega)]
  rfl
theorem vown_of {W : World} {B g cap : Nat} {cur : Array Value} {l : List (Int × Int)} (hg : B ≤ g) (hb : Bk W g 26 cur) (hn : l.length ≤ cap) (hc : cap ≤ maxLen) (hs : cur.size = cap * 2)
    (hx : ∀ j, j < l.length * 2 → W.cell? ⟨g, j, none⟩ = (vCells l)[j]?) : VOwn W B (.slice (some ⟨g, 0, none⟩) l.length cap) l := by
  refine ⟨vCells_len l, .inr ⟨g, cap, cur, rfl, hg, hb, hn, hc, hs, ?_⟩⟩
  apply List.ext_getElem?
  intro j
  rw [List.getElem?_take]
  split
  · rename_i h
    rw [← hx j h, hb.cell]
    simp
  · rename_i h
    rw [List.getElem?_eq_none (by rw [vCells_len]; omega)]
theorem vCells_app (a b : List (Int × Int)) : vCells (a ++ b) = vCells a ++ vCells b := by simp [vCells]
theorem vCells_drop (l : List (Int × Int)) (k : Nat) : (vCells l).drop (k * 2) = vCells (l.drop k) := by
  have h : vCells l = vCells (l.take k) ++ vCells (l.drop k) := by rw [← vCells_app, List.take_append_drop]
  have h2 := vCells_take l k
  have h3 : (vCells l).take (k * 2) ++ (vCells l).drop (k * 2) = vCells (l.take k) ++ vCells (l.drop k) := by rw [List.take_append_drop]; exact h
  rw [h2] at h3
  exact List.append_cancel_left h3

theorem run_clear_one (w : World) (ty : TypeId) (b o c : Nat) (h0 : (w.cell? ⟨b, o, none⟩).isSome = true) (h1 : (w.cell? ⟨b, o + 1, none⟩).isSome = true) (hf : ∀ k, w.frozen? ⟨b, k, none⟩ = false) :
    (Builtin.clear_ #[22] ty #[.slice (some ⟨b, o, none⟩) 1 c]).run Try.prog w = .ok (.tuple #[]) (w.setCells b o [.int .u64 0, .int .i64 0]) := by
  obtain ⟨i0, hi, hz0, hz1, hz2⟩ := info_parts val_info
  have hst := run_storeCells_cells (P := Try.prog) b o [.int .u64 0, .int .i64 0] 0 w
    (by intro j hj; match j, hj with
      | 0, _ => exact h0
      | 1, _ => exact h1
      | j + 2, hj => exact absurd hj (by simp)) (by intro j hj; exact hf _) (by intro u hu; simp at hu; rcases hu with rfl | rfl <;> rfl)
  simp only [Nat.add_zero] at hst
  have hv : (zeroValue 26).run Try.prog w = .ok (.agg #[.int .u64 0, .int .i64 0]) w := by
    simp [zeroValue, typeInfo, hi, hz0]
  have hzc : (Builtin.zeroCells (Value.agg #[.int .u64 0, .int .i64 0]).cells 1).toList = [.int .u64 0, .int .i64 0] := by
    have hc : (Value.agg #[.int .u64 0, .int .i64 0]).cells = #[.int .u64 0, .int .i64 0] := by simp [Value.cells]
    rw [hc]
    apply List.ext_getElem
    · simp [Builtin.zeroCells]
    · intro t h1 h2
      have h3 : t = 0 ∨ t = 1 := by simp at h2; omega
      rcases h3 with rfl | rfl <;> simp [Builtin.zeroCells]
  simp [Builtin.clear_, run_underlying Try.underlying22, hv, hzc, hst]

set_option maxRecDepth 100000 in
set_option maxHeartbeats 2000000 in
theorem delete_any (B : Nat) (v : Value) (l : List (Int × Int)) (i : Nat) (k : Int) (w : World) (hk : k = ((i + 1 : Nat) : Int)) (hi : i < l.length) (hl : l.length ≤ 1000000) (hv : VOwn w B v l) :
    Calls Try.prog 26 #[v, .int .i64 i, .int .i64 k] w fun e w' => ∃ v', e = .returned v' ∧ VOwn w' B v' (l.take i ++ l.drop (i + 1)) ∧ Below B w w' := by
  obtain ⟨j, hj⟩ : ∃ j, i + 1 = j := ⟨_, rfl⟩
  rw [hj] at hk
  subst hk
  obtain ⟨i0, hi0, hz0, hz1, hz2⟩ := info_parts val_info
  rcases hv.2 with ⟨_, h⟩ | ⟨g, cap, cur, rfl, hbg, hheap, hnc, hcm, hcs, htake⟩
  · omega
  obtain ⟨n, hn⟩ : ∃ n, l.length = n := ⟨_, rfl⟩
  have HN := Lib.hid hn
  have HJ := Lib.hid hj
  have HT := Lib.hid htake
  have HS := Lib.hid hcs
  have hb : Hid (Bk w.drew g 26 cur) := Lib.hid hheap
  have hcell : Hid (∀ t u, (vCells l)[t]? = some u → w.drew.cell? ⟨g, t, none⟩ = some u) := Lib.hid (fun t u hu => by
    have h1 : t < n * 2 := by
      have := (List.getElem?_eq_some_iff.1 hu).1
      rw [vCells_len, hn] at this
      exact this
    have h2 := World.ownsRow.cellAt hv t (by omega)
    exact h2.trans hu)
  obtain ⟨news, hnews⟩ : ∃ news, news = (vCells l).drop (j * 2) := ⟨_, rfl⟩
  have hlen : news.length = (n - j) * 2 := by rw [hnews, List.length_drop, vCells_len, hn]; omega
  obtain ⟨A, hA, hsrc⟩ : ∃ A : Addr, (if cap = j then some (⟨g, 0, none⟩ : Addr) else some ⟨g, j * 2, none⟩) = some A ∧ Hid (∀ t u, news[t]? = some u → w.drew.cell? (A.add t) = some u) := by
    by_cases h : cap = j
    · refine ⟨⟨g, 0, none⟩, by simp [h], Lib.hid fun t u hu => ?_⟩
      have h0 : news.length = 0 := by rw [hlen]; omega
      rw [List.length_eq_zero_iff.1 h0] at hu
      simp at hu
    · refine ⟨⟨g, j * 2, none⟩, by simp [h], Lib.hid fun t u hu => ?_⟩
      rw [Addr.add_lit]
      rw [hnews, List.getElem?_drop] at hu
      exact hcell.out _ _ hu
  have s2 : Hid (∀ u ∈ news, u.oneCell' = true) := Lib.hid fun u hu => vCells_one l u (by rw [hnews] at hu; exact List.mem_of_mem_drop hu)
  have hnl : i < n := by omega
  have hjn : j ≤ n := by omega
  have s3 : Hid (∀ t, t < news.length → (w.drew.cell? ⟨g, 0 + i * 2 + t, none⟩).isSome = true ∧ w.drew.frozen? ⟨g, 0 + i * 2 + t, none⟩ = false) := Lib.hid fun t ht => by
    rw [hlen] at ht
    exact ⟨by rw [hb.out.cell, Array.getElem?_eq_getElem (by omega)]; rfl, hb.out.frozen _⟩
  have hlen' := Lib.hid hlen
  obtain ⟨W1, hW1⟩ : ∃ W1, W1 = w.drew.setCells g (0 + i * 2) news := ⟨_, rfl⟩
  obtain ⟨cur1, hb1, hs1⟩ := Bk.sets news (0 + i * 2) w.drew cur hb.out
  rw [← hW1] at hb1
  have hjj : i + (n - j) = n - 1 := by omega
  have hcl : ∀ ty c, (Builtin.clear_ #[22] ty #[.slice (some ⟨g, (i + (n - j)) * 2, none⟩) (n - (i + (n - j))) c]).run Try.prog W1 = .ok (.tuple #[]) (W1.setCells g ((n - 1) * 2) [.int .u64 0, .int .i64 0]) := fun ty c => by
    rw [hjj, show n - (n - 1) = 1 from by omega]
    exact run_clear_one W1 ty g _ c (by rw [hb1.cell, Array.getElem?_eq_getElem (by omega)]; rfl) (by rw [hb1.cell, Array.getElem?_eq_getElem (by omega)]; rfl) (fun k => hb1.frozen k)
  have B1 := Lib.hid hb1
  have S1 := Lib.hid hs1
  have HB := Lib.hid hbg
  have hW : Hid (W1 = w.drew.setCells g (0 + i * 2) news) := Lib.hid hW1
  have HW := Lib.hid hnews
  have hic : i ≤ cap := by omega
  have hjc : j ≤ cap := by omega
  have hlt : i < j := by omega
  have hne : ¬ ((i : Int) = (j : Int)) := by omega
  have hcm' : (cap : Int) ≤ 9223372036854775807 := by unfold maxLen at hcm; omega
  have HCM := Lib.hid hcm
  have HL := Lib.hid hl
  rw [hn] at hi hl ⊢
  have hnc' : n ≤ cap := by omega
  have mixed : Try.prog.follows Departure.mixedOrders = true := by kernel_rfl
  clear hnc
  clear hW1 hv hheap htake hcs hnews hlen hb1 hs1 hjj hj hn hbg hcm hl
  go_enter Try.func26, Try.ntmps26
  go_wp2_with fail
  go_region_law_o (refine step_append_room rfl (.tmp 22) (.tmp 25) 22 rfl 26 i0 2 Try.underlying22 hi0 hz1 g 0 i cap (by simp [Act.eval, Act.put]) A (n - j) (cap - j) news (by simp [Act.eval, Act.put]) hlen'.out hsrc.out s2.out (by omega) s3.out ?_; rw [← hW.out])
  go_wp2
  go_ret
  have hn := HN.out
  have hj := HJ.out
  have e : (l.take i ++ l.drop (i + 1)).length = i + (n - j) := by rw [List.length_append, List.length_take, List.length_drop]; omega
  refine ⟨.slice (some ⟨g, 0, none⟩) (i + (n - j)) cap, rfl, ?_, ?_⟩
  · obtain ⟨cur2, hb2, hs2⟩ := Bk.sets [.int .u64 0, .int .i64 0] ((n - 1) * 2) W1 cur1 B1.out
    rw [← e]
    refine vown_of HB.out hb2 (by omega) HCM.out (by rw [hs2, S1.out, HS.out]) fun x hx => ?_
    rw [e] at hx
    rw [World.cell?_setCells_out _ _ _ _ _ (fun _ _ => .inl (by show x < (n - 1) * 2; omega)), hW.out, vCells_app, ← vCells_take, ← vCells_drop, hj, ← HW.out]
    have hl1 : ((vCells l).take (i * 2)).length = i * 2 := by rw [List.length_take, vCells_len, hn]; omega
    by_cases hxi : x < i * 2
    · rw [World.cell?_setCells_out _ _ _ _ _ (fun _ _ => .inl (by show x < 0 + i * 2; omega)), List.getElem?_append_left (by omega), List.getElem?_take, if_pos hxi]
      have hxl : x < (vCells l).length := by rw [vCells_len, hn]; omega
      rw [List.getElem?_eq_getElem hxl]
      exact hcell.out _ _ (List.getElem?_eq_getElem hxl)
    · rw [List.getElem?_append_right (by omega), hl1]
      have hxn : x - i * 2 < news.length := by rw [hlen'.out]; omega
      have := World.cell?_setCells_in g news (0 + i * 2) w.drew (fun t ht => (s3.out t ht).1) (x - i * 2) hxn
      rw [show 0 + i * 2 + (x - i * 2) = x from by omega] at this
      rw [this, List.getElem?_eq_getElem hxn]
  · refine Below.sets HB.out _ _ _ ?_
    rw [hW.out]
    exact Below.sets HB.out _ _ _ (Below.drew (Below.refl _ _))
end Go.Proofs.Ytlocapkofmpebaa

/- What this text proves: the contracts of the document's Power and without of layer 7. The conditions are how the list lies in memory. -/
import Derived.Test.YtlocapkofmpebaaVsCtx
import Derived.Test.YtlocapkofmpebaaRef07
namespace Go.Proofs.Ytlocapkofmpebaa
open Go.RowKit
set_option linter.unusedVariables false
set_option linter.unusedSimpArgs false

set_option maxHeartbeats 1000000 in
theorem refPower_any (A : Option Addr) (l : VL) (c : Nat) (key : Int) (w : World) (hl : l.length ≤ maxLen) (hA : Sl w w.heap.size 2 A l.length (vCells l)) :
    Calls Try.prog 19 #[.slice A l.length c, .int .u64 key] w fun e w' => e = .returned (.int .i64 (powerV l key)) ∧ Below w.heap.size w w' := by
  unfold maxLen at hl
  have HA := Lib.hid hA
  clear hA
  go_enter Try.func19, Try.ntmps19
  go_wp2_with fail
  go_loopw [5] (fun i wr => ∃ (k : Nat), k ≤ l.length ∧ i = .int .i64 k ∧ powerV l key = powerV (l.drop k) key ∧ Below w.heap.size w wr) (fun i _ => l.length - (intOf i).toNat)
  case atStart => exact ⟨0, by omega, rfl, by simp, Below.refl _ _⟩
  case round =>
    obtain ⟨k, hk, rfl, hs, hbel⟩ := hrel
    have hz := hbel.size
    by_cases hlt : k < l.length
    · obtain ⟨b, off, ke, pe, rfl, hb, hck, hcp, hlk⟩ := (HA.out.below hbel).val hlt
      rw [drop_at hlk] at hs
      have HS := Lib.hid hs
      have HL := Lib.hid hlk
      clear hs hlk
      by_cases he : ke = key
      · have he' : (ke == key) = true := by simpa using he
        have HE := Lib.hid he
        clear he
        go_wp2_with fail
        go_ret
        exact ⟨ret_int (by rw [HS.out, powerV, if_pos HE.out]), (by (first | assumption | (repeat (first | exact Below.refl _ _ | assumption | apply Below.drew | apply below_drewN | (refine Below.setCell ?_ (by (try simp) <;> omega) _) | (refine Below.alloc ?_ (by (try simp) <;> omega) _)))))⟩
      · have he' : (ke == key) = false := by simpa using he
        go_wp2_with fail
        go_roundw
        case rel => exact ⟨k+1, by omega, by go_num, by rw [HS.out, powerV, if_neg he], (by (first | assumption | (repeat (first | exact Below.refl _ _ | assumption | apply Below.drew | apply below_drewN | (refine Below.setCell ?_ (by (try simp) <;> omega) _) | (refine Below.alloc ?_ (by (try simp) <;> omega) _)))))⟩
        case measure => simp [intOf]; omega
    · obtain rfl : k = l.length := by omega
      rw [List.drop_length] at hs
      have HS := Lib.hid hs
      clear hs
      go_wp2_with fail
      go_ret
      exact ⟨ret_int (by rw [HS.out]; rfl), (by (first | assumption | (repeat (first | exact Below.refl _ _ | assumption | apply Below.drew | apply below_drewN | (refine Below.setCell ?_ (by (try simp) <;> omega) _) | (refine Below.alloc ?_ (by (try simp) <;> omega) _)))))⟩

/-- A list without a key. -/
def outV (l : VL) (k : Int) : VL := l.filter fun v => !(v.1 == k)
theorem outV_len (l : VL) (k : Int) : (outV l k).length ≤ l.length := List.length_filter_le _ _
theorem outV_take {l : VL} {j : Nat} {v : Int × Int} (h : l[j]? = some v) (k : Int) : outV (l.take (j + 1)) k = outV (l.take j) k ++ (if v.1 = k then [] else [v]) := by
  rw [take_at h]
  unfold outV
  rw [List.filter_append]
  congr 1
  by_cases he : v.1 = k
  · simp [he]
  · simp [he]
theorem outV_up {l : VL} (h : Up l) (k : Int) : outV l k = lo l k ++ hi l k := by
  induction l with
  | nil => rfl
  | cons v l ih =>
    have h2 := List.pairwise_cons.1 h
    have h3 := ih h2.2
    unfold outV lo hi at *
    rw [List.filter_cons, List.filter_cons, List.filter_cons]
    rcases Int.lt_trichotomy v.1 k with hlt | he | hgt
    · rw [if_pos (by simp; omega), if_pos (by simpa using hlt), if_neg (by simp; omega), h3]
      rfl
    · rw [if_neg (by simp; omega), if_neg (by simp; omega), if_neg (by simp; omega), h3]
    · rw [if_pos (by simp; omega), if_neg (by simp; omega), if_pos (by simpa using hgt), h3]
      have hlo : l.filter (fun v => decide (v.1 < k)) = [] := by
        rw [List.filter_eq_nil_iff]
        intro x hx
        have := h2.1 x hx
        simp; omega
      rw [hlo]
      rfl

theorem vown_app {w : World} {B : Nat} {v : Value} {l : VL} {k p : Int} {n m : Nat} (hn : m = n + 1) (hl : l.length = n) (h : w.ownsRow B 26 2 v m (vCells l ++ [.int .u64 k, .int .i64 p])) : VOwn w B v (l ++ [(k, p)]) := by
  unfold VOwn
  rw [vCells_app, List.length_append, hl]
  subst hn
  exact h

set_option maxHeartbeats 2000000 in
theorem without_any (A : Option Addr) (l : VL) (c : Nat) (key : Int) (w : World) (hl : l.length ≤ 1000000) (hA : Sl w w.heap.size 2 A l.length (vCells l)) :
    Calls Try.prog 20 #[.slice A l.length c, .int .u64 key] w fun e w' => ∃ v, e = .returned v ∧ VOwn w' w.heap.size v (outV l key) ∧ Below w.heap.size w w' := by
  obtain ⟨i0, hi0, hz0, hz1, hz2⟩ := info_parts val_info
  have HA := Lib.hid hA
  obtain ⟨B, hB⟩ : ∃ B, w.heap.size = B := ⟨_, rfl⟩
  have HBW := Lib.hid hB
  rw [hB] at HA ⊢
  obtain ⟨n, hn⟩ : ∃ n, l.length = n := ⟨_, rfl⟩
  have HN := Lib.hid hn
  rw [hn] at HA hl ⊢
  clear hA hB hn
  go_enter Try.func20, Try.ntmps20
  go_wp2_with fail
  go_loopw [5, 6] (fun s i wr => ∃ (k : Nat), k ≤ n ∧ i = .int .i64 k ∧ VOwn wr B s (outV (l.take k) key) ∧ Below B w wr) (fun _ i _ => n - (intOf i).toNat)
  case atStart => exact ⟨0, by omega, rfl, vown_nil _ _, Below.refl _ _⟩
  case round =>
    obtain ⟨k, hk, rfl, hown, hbel⟩ := hrel
    have OR := Lib.hid hown
    have LR := Lib.hid hbel
    have hz : B ≤ wr.heap.size := by have := hbel.size; have := HBW.out; omega
    clear hbel hown
    by_cases hlt : k < n
    · obtain ⟨b, off, ke, pe, rfl, hb, hck, hcp, hlk⟩ := (sl_len HN.out (HA.out.below LR.out)).val (k := k) (by rw [HN.out]; exact hlt)
      have ht := outV_take hlk key
      by_cases he : ke = key
      · have he' : (ke == key) = true := by simpa using he
        rw [if_pos he, List.append_nil] at ht
        have HT := Lib.hid ht
        clear ht hlk he
        go_wp2_with fail
        go_roundw
        case rel => exact ⟨k+1, by omega, by go_num, by rw [HT.out]; exact OR.out, LR.out⟩
        case measure => simp [intOf]; omega
      · have he' : (ke == key) = false := by simpa using he
        rw [if_neg he] at ht
        have HT := Lib.hid ht
        clear ht hlk he
        obtain ⟨N, hN⟩ : ∃ N, wr.heap.size = N := ⟨_, rfl⟩
        obtain ⟨W, hW⟩ : ∃ W, wr.alloc (.cells #[.int .u64 ke, .int .i64 pe] 26) = W := ⟨_, rfl⟩
        have LW : Hid (Below wr.heap.size wr W) := Lib.hid (by rw [← hW]; exact alloc_bel _ _ _)
        have SW : Hid (Sl W W.heap.size 2 (some ⟨N, 0, none⟩) 1 [.int .u64 ke, .int .i64 pe]) := Lib.hid (by rw [← hW, ← hN]; exact one_sl wr ke pe)
        have OW := Lib.hid (vown_bl OR.out LW.out)
        have LB : Hid (Below B w W) := Lib.hid (LR.out.trans (LW.out.mono hz))
        have hzW : B ≤ W.heap.size := Nat.le_trans hz LW.out.size
        obtain ⟨no, hno⟩ : ∃ no, (outV (l.take k) key).length = no := ⟨_, rfl⟩
        have hno2 : no ≤ 1000000 := by
          have h1 := outV_len (l.take k) key
          rw [List.length_take] at h1
          omega
        unfold VOwn at OW
        rw [hno] at OW
        have HNO := Lib.hid hno
        clear hno
        go_wp2_with (refine wpList_append_sl W (by rfl) _ _ 22 (by rfl) B 26 i0 _ 2 16 Try.underlying22 hi0 hz0 hz1 hz2 rfl (by omega) _ no _ (by rfl) OW.out (some ⟨N, 0, none⟩) 1 1 [.int .u64 ke, .int .i64 pe] (by rfl) SW.out (by intro u hu; simp at hu; rcases hu with rfl | rfl <;> rfl) (by unfold maxLen; omega) (by omega) hzW ?_; intro v10 w10 ho_ hg_ hv_; have O10 := Lib.hid (vown_app rfl HNO.out ho_); have L10 : Hid (Below B w w10) := Lib.hid (LB.out.grown hg_ hzW (fun k hk => (own_cells OW.out hk).1)); clear ho_ hg_ hv_)
        clear hN hW
        go_roundw
        case rel => exact ⟨k+1, by omega, by go_num, by rw [HT.out]; exact O10.out, L10.out⟩
        case measure => simp [intOf]; omega
    · obtain rfl : k = n := by omega
      have he : outV (l.take k) key = outV l key := by rw [← HN.out, List.take_length]
      rw [he] at OR
      clear he
      go_wp2_with fail
      go_ret
      exact ⟨_, rfl, OR.out, LR.out⟩
end Go.Proofs.Ytlocapkofmpebaa

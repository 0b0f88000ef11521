/- What this text proves: the contract of slices.BinarySearchFunc at validators. The conditions are that the list is by rising keys, and how it lies in memory. -/
import Derived.Test.YtlocapkofmpebaaVals
import Derived.WalkKit
namespace Go.Proofs.Ytlocapkofmpebaa
open Go.RowKit
set_option linter.unusedVariables false
set_option linter.unusedSimpArgs false

/-- By rising keys. -/
def Rising (l : List (Int × Int)) : Prop := ∀ (i j : Nat) (u v : Int × Int), i < j → l[i]? = some u → l[j]? = some v → u.1 < v.1
/-- The place of a key. -/
structure LowAt (l : List (Int × Int)) (key : Int) (i : Nat) : Prop where
  le : i ≤ l.length
  lo : ∀ (j : Nat) (v : Int × Int), j < i → l[j]? = some v → v.1 < key
  hi : ∀ (j : Nat) (v : Int × Int), i ≤ j → l[j]? = some v → key ≤ v.1
def foundAt (l : List (Int × Int)) (key : Int) (i : Nat) : Bool := match l[i]? with
  | some v => v.1 == key
  | none => false
def cmpI (a b : Int) : Int := if a < b then -1 else if b < a then 1 else 0

set_option maxHeartbeats 1000000 in
theorem compare_any (a b : Int) (w : World) :
    Calls Try.prog 25 #[.int .u64 a, .int .u64 b] w fun e w' => e = .returned (.int .i64 (cmpI a b)) ∧ Below w.heap.size w w' := by
  rcases Int.lt_trichotomy a b with h | h | h
  · have e1 : decide (a < b) = true := by simpa using h
    have ev : cmpI a b = -1 := by unfold cmpI; rw [if_pos h]
    rw [ev]
    clear h ev
    go_enter Try.func25, Try.ntmps25
    go_wp2
    go_ret
    exact ⟨rfl, (by (first | assumption | (repeat (first | exact Below.refl _ _ | assumption | apply Below.drew | apply below_drewN | (refine Below.setCell ?_ (by (try simp) <;> omega) _) | (refine Below.alloc ?_ (by (try simp) <;> omega) _)))))⟩
  · subst h
    have ev : cmpI a a = 0 := by unfold cmpI; rw [if_neg (by omega), if_neg (by omega)]
    rw [ev]
    clear ev
    go_enter Try.func25, Try.ntmps25
    go_wp2
    go_ret
    exact ⟨rfl, (by (first | assumption | (repeat (first | exact Below.refl _ _ | assumption | apply Below.drew | apply below_drewN | (refine Below.setCell ?_ (by (try simp) <;> omega) _) | (refine Below.alloc ?_ (by (try simp) <;> omega) _)))))⟩
  · have e1 : decide (a < b) = false := by simp; omega
    have e2 : decide (b < a) = true := by simpa using h
    have ev : cmpI a b = 1 := by unfold cmpI; rw [if_neg (by omega), if_pos h]
    rw [ev]
    clear h ev
    go_enter Try.func25, Try.ntmps25
    go_wp2
    go_ret
    exact ⟨rfl, (by (first | assumption | (repeat (first | exact Below.refl _ _ | assumption | apply Below.drew | apply below_drewN | (refine Below.setCell ?_ (by (try simp) <;> omega) _) | (refine Below.alloc ?_ (by (try simp) <;> omega) _)))))⟩

set_option maxHeartbeats 1000000 in
theorem less_any (k p key : Int) (w : World) :
    Calls Try.prog 24 #[.agg #[.int .u64 k, .int .i64 p], .int .u64 key] w fun e w' => e = .returned (.int .i64 (cmpI k key)) ∧ Below w.heap.size w w' := by
  have L1 : Hid (Below w.heap.size w (w.alloc (.cells #[.int .u64 k, .int .i64 p] 26))) := Lib.hid (by (first | assumption | (repeat (first | exact Below.refl _ _ | assumption | apply Below.drew | apply below_drewN | (refine Below.setCell ?_ (by (try simp) <;> omega) _) | (refine Below.alloc ?_ (by (try simp) <;> omega) _)))))
  go_enter Try.func24, Try.ntmps24
  go_wp2_with fail
  obtain ⟨w1, hw1⟩ : ∃ W, w.alloc (.cells #[.int .u64 k, .int .i64 p] 26) = W := ⟨_, rfl⟩
  rw [hw1] at L1 ⊢
  with_reducible refine (compare_any k key w1).mono ?_
  rintro e w2 ⟨rfl, hb⟩
  go_wp2_with fail
  go_ret
  exact ⟨rfl, L1.out.trans (hb.mono L1.out.size)⟩

set_option maxRecDepth 100000 in
set_option maxHeartbeats 2000000 in
theorem search_any (A : Option Addr) (l : List (Int × Int)) (c : Nat) (key : Int) (w : World) (hl : l.length ≤ 1000000) (hs : Rising l) (hA : Sl w w.heap.size 2 A l.length (vCells l)) :
    Calls Try.prog 23 #[.slice A l.length c, .int .u64 key, .func (.func 24) #[] #[]] w fun e w' => ∃ i, LowAt l key i ∧ e = .returned (.tuple #[.int .i64 (i : Nat), .bool (foundAt l key i)]) ∧ Below w.heap.size w w' := by
  have HA := Lib.hid hA
  have HS := Lib.hid hs
  have HL := Lib.hid hl
  clear hA hs hl
  go_enter Try.func23, Try.ntmps23
  go_wp2_with fail
  go_loopw [9, 10] (fun i j wr => ∃ (a b : Nat), a ≤ b ∧ b ≤ l.length ∧ i = .int .i64 a ∧ j = .int .i64 b ∧ (∀ (t : Nat) (v : Int × Int), t < a → l[t]? = some v → v.1 < key) ∧ (∀ (t : Nat) (v : Int × Int), b ≤ t → l[t]? = some v → key ≤ v.1) ∧ Below w.heap.size w wr) (fun i j _ => (intOf j - intOf i).toNat)
  case atStart => exact ⟨0, l.length, by omega, by omega, rfl, rfl, fun t v ht => by omega, fun t v ht hv => (by rw [List.getElem?_eq_none ht] at hv; cases hv), Below.refl _ _⟩
  case round =>
    obtain ⟨a, b, hab, hbl, rfl, rfl, hlo, hhi, hbel⟩ := hrel
    have LO := Lib.hid hlo
    have HI := Lib.hid hhi
    have L := Lib.hid hbel
    have hl := HL.out
    clear hlo hhi hbel
    by_cases hlt : a < b
    · have hlt' : (a : Int) < (b : Int) := by omega
      obtain ⟨h, hh⟩ : ∃ h, (a + b) / 2 = h := ⟨_, rfl⟩
      have h1 : a ≤ h := by omega
      have h2 : h < b := by omega
      obtain ⟨bb, off, ke, pe, rfl, hb, hck, hcp, hlk⟩ := (HA.out.below L.out).val (k := h) (by omega)
      have hab' : ((a : Int) + (b : Int)) / 2 = (h : Int) := by omega
      have hsum : (a : Int) + (b : Int) < 4000000 := by omega
      have hhl : (h : Int) < (l.length : Int) := by omega
      have LK := Lib.hid hlk
      clear hlk hh
      go_wp2_with fail
      have HC := Lib.hid (less_any ke pe key wr)
      by_cases hk : ke < key
      · have hx : cmpI ke key = -1 := by unfold cmpI; rw [if_pos hk]
        rw [hx] at HC
        have HK := Lib.hid hk
        clear hk hx
        with_reducible refine HC.out.mono ?_
        rintro e w2 ⟨rfl, hb2⟩
        have L2 : Hid (Below w.heap.size w w2) := Lib.hid (L.out.trans (hb2.mono L.out.size))
        clear hb2 HC
        go_wp2_with fail
        go_roundw
        case rel =>
          refine ⟨h + 1, b, by omega, by omega, by go_num, rfl, fun t v ht hv => ?_, HI.out, L2.out⟩
          by_cases e : t = h
          · subst e
            have := LK.out.symm.trans hv
            cases this
            exact HK.out
          · have := HS.out t h v (ke, pe) (by omega) hv LK.out
            simp only at this
            have := HK.out
            omega
        case measure => simp [intOf]; omega
      · obtain ⟨x, hx⟩ : ∃ x, cmpI ke key = x := ⟨_, rfl⟩
        have hx0 : decide (x < 0) = false := by rw [← hx]; unfold cmpI; rw [if_neg hk]; split <;> decide
        rw [hx] at HC
        have HK := Lib.hid hk
        clear hk hx
        with_reducible refine HC.out.mono ?_
        rintro e w2 ⟨rfl, hb2⟩
        have L2 : Hid (Below w.heap.size w w2) := Lib.hid (L.out.trans (hb2.mono L.out.size))
        clear hb2 HC
        go_wp2_with fail
        go_roundw
        case rel =>
          refine ⟨a, h, by omega, by omega, rfl, rfl, LO.out, fun t v ht hv => ?_, L2.out⟩
          by_cases e : t = h
          · subst e
            have := LK.out.symm.trans hv
            cases this
            have := HK.out
            omega
          · have := HS.out h t (ke, pe) v (by omega) LK.out hv
            simp only at this
            have := HK.out
            omega
        case measure => simp [intOf]; omega
    · obtain rfl : a = b := by omega
      have HAT : Hid (LowAt l key a) := Lib.hid ⟨hbl, LO.out, HI.out⟩
      by_cases hal : a < l.length
      · have hal' : (a : Int) < (l.length : Int) := by omega
        obtain ⟨bb, off, ke, pe, rfl, hb, hck, hcp, hlk⟩ := (HA.out.below L.out).val hal
        have HF : Hid (foundAt l key a = (ke == key)) := Lib.hid (by unfold foundAt; rw [hlk])
        have HC := Lib.hid (less_any ke pe key wr)
        obtain ⟨x, hx⟩ : ∃ x, cmpI ke key = x := ⟨_, rfl⟩
        have hx0 : Hid ((x == 0) = (ke == key)) := Lib.hid (by
          rw [← hx]
          unfold cmpI
          rcases Int.lt_trichotomy ke key with h | h | h
          · rw [if_pos h, beq_eq_false_iff_ne.2 (by omega : ke ≠ key)]; rfl
          · subst h; simp
          · rw [if_neg (by omega), if_pos h, beq_eq_false_iff_ne.2 (by omega : ke ≠ key)]; rfl)
        rw [hx] at HC
        clear hx hlk hb
        go_wp2_with fail
        with_reducible refine HC.out.mono ?_
        rintro e w2 ⟨rfl, hb2⟩
        have L2 : Hid (Below w.heap.size w w2) := Lib.hid (L.out.trans (hb2.mono L.out.size))
        clear hb2 HC
        go_wp2_with fail
        go_ret2
        exact ⟨a, HAT.out, ret_two rfl (by rw [HF.out, ← hx0.out]; rfl), L2.out⟩
      · obtain rfl : a = l.length := by omega
        have HF : Hid (foundAt l key l.length = false) := Lib.hid (by unfold foundAt; rw [List.getElem?_eq_none (Nat.le_refl _)])
        go_wp2_with fail
        go_ret2
        exact ⟨l.length, HAT.out, ret_two rfl (by rw [HF.out]; rfl), L.out⟩
end Go.Proofs.Ytlocapkofmpebaa

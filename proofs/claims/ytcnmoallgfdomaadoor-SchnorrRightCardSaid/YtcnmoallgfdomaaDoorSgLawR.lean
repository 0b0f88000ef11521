/- What this text proves: the contract of the law SchnorrRight. The conditions are how the arguments lie in memory, and that the package's table is as its text lays it. -/
import Derived.Test.YtcnmoallgfdomaaDoorSgMath
namespace Go.Proofs.YtcnmoallgfdomaaDoor
open Go.RowKit
set_option linter.unusedVariables false
set_option linter.unusedSimpArgs false

attribute [local irreducible] digF numN sigR sigS keyErr keyOf verF
set_option maxRecDepth 100000 in
set_option maxHeartbeats 4000000 in
theorem right_any (s : Nat) (A : Option Addr) (m : List UInt8) (c : Nat) (w : World) (hr : Roots w) (h0 : 2 < w.heap.size) (hsn : s < 18446744073709551616) (hg : Part.good w (A, c, m)) :
    Calls Tryd.prog 5 #[.int .u64 s, .slice A m.length c] w fun e w' => e = .returned (.bool true) ∧ Below w.heap.size w w' := by
  have HR := Lib.hid hr
  have HG := Lib.hid hg
  clear hr hg
  have hzs := zero_sig
  by_cases hbig : 2000 < m.length
  · have e1 : decide ((2000 : Int) < (m.length : Int)) = true := decide_eq_true (by omega)
    go_enter Tryd.func5, Tryd.ntmps5
    go_wp2_with fail
    with_reducible refine (alive_any w).mono ?_
    rintro e w1 ⟨rfl, hb⟩
    go_wp2_with fail
    go_ret
    exact ⟨rfl, hb⟩
  have e1 : decide ((2000 : Int) < (m.length : Int)) = false := decide_eq_false (by omega)
  have K := Lib.hid (key_any s w hsn)
  have P5 := Lib.hid fun W hR h0 hg => sign_any s A m c W hR h0 hsn hg
  by_cases h : 1 ≤ s ∧ s < QQ
  · obtain ⟨k1, k2⟩ := key_yes h
    have hver := verF_signed s m h
    rw [k1, k2] at K
    rw [k2] at P5
    obtain ⟨key, hkey⟩ : ∃ x, 37 ^ s % PP = x := ⟨_, rfl⟩
    have hkn : key < 18446744073709551616 := by rw [← hkey]; exact Nat.lt_trans (Nat.mod_lt _ (by decide)) (by decide)
    have hRn : sigR s m < 18446744073709551616 := by
      rw [show sigR s m = 37 ^ nonceK s m % PP from by unfold sigR; exact if_pos h]
      exact Nat.lt_trans (Nat.mod_lt _ (by decide)) (by decide)
    have hSn : sigS s m < 18446744073709551616 := by
      rw [show sigS s m = (nonceK s m + chal (37 ^ nonceK s m % PP) (37 ^ s % PP) m * s % QQ) % QQ from by unfold sigS; exact if_pos h]
      exact Nat.lt_trans (Nat.mod_lt _ (by decide)) (by decide)
    obtain ⟨RR, hRR⟩ : ∃ x, sigR s m = x := ⟨_, rfl⟩
    obtain ⟨SS, hSS⟩ : ∃ x, sigS s m = x := ⟨_, rfl⟩
    rw [hkey] at K hver
    rw [hRR] at P5 hver hRn
    rw [hSS] at P5 hver hSn
    have HV := Lib.hid hver
    have t1 : decide ((1 : Int) ≤ (s : Int)) = true := by simp; omega
    have t2 : decide ((s : Int) < 2305843009213693950) = true := by have := h.2; unfold QQ at this; simp; omega
    clear h k1 k2 hver hkey hRR hSS
    go_enter Tryd.func5, Tryd.ntmps5
    go_wp2_with fail
    with_reducible refine K.out.mono ?_
    rintro e w1 ⟨rfl, hb1⟩
    have L1 := Lib.hid hb1
    clear hb1 K
    go_wp2_with fail
    with_reducible refine (P5.out w1 (HR.out.below L1.out h0) (Nat.lt_of_lt_of_le h0 L1.out.size) (HG.out.below L1.out)).mono ?_
    rintro e w2 ⟨rfl, hb2⟩
    have L2 : Hid (Below w.heap.size w w2) := Lib.hid (L1.out.trans (hb2.mono L1.out.size))
    clear hb2 L1 P5
    go_upto_region 5 with fail
    have X3 := Lib.hid (Bk.new w2 25 #[.int .u64 RR, .int .u64 SS])
    have Y3 : Hid (Below w2.heap.size w2 (w2.alloc (.cells #[.int .u64 RR, .int .u64 SS] 25))) := Lib.hid (by (first | assumption | (repeat (first | exact Below.refl _ _ | assumption | apply Below.drew | apply below_drewN | (refine Below.setCell ?_ (by (try simp) <;> omega) _) | (refine Below.alloc ?_ (by (try simp) <;> omega) _)))))
    obtain ⟨w3, hw3⟩ : ∃ W, w2.alloc (.cells #[.int .u64 RR, .int .u64 SS] 25) = W := ⟨_, rfl⟩
    rw [hw3] at X3 Y3 ⊢
    obtain ⟨ga, hga⟩ : ∃ x, w2.heap.size = x := ⟨_, rfl⟩
    have L3 : Hid (Below w.heap.size w w3) := Lib.hid (L2.out.trans (Y3.out.mono L2.out.size))
    rw [hga] at X3 ⊢
    clear hw3 hga Y3 L2
    go_wp2_with fail
    with_reducible refine (alive_any w3).mono ?_
    rintro e w4 ⟨rfl, hb4⟩
    have X4 := Lib.hid (X3.out.below hb4 X3.out.lt)
    have L4 : Hid (Below w.heap.size w w4) := Lib.hid (L3.out.trans (hb4.mono L3.out.size))
    clear hb4 X3 L3
    have x0 := X4.out.cell 0
    have x1 := X4.out.cell 1
    go_wp2_with fail
    with_reducible refine (verify_any key RR SS A m c w4 (HR.out.below L4.out h0) (Nat.lt_of_lt_of_le h0 L4.out.size) hkn hRn hSn (HG.out.below L4.out)).mono ?_
    rintro e w5 ⟨rfl, hb5⟩
    rw [HV.out]
    have L5 : Hid (Below w.heap.size w w5) := Lib.hid (L4.out.trans (hb5.mono L4.out.size))
    clear hb5
    go_wp2_with fail
    go_ret
    exact ⟨rfl, L5.out⟩
  · obtain ⟨k1, k2⟩ := key_no h
    have hR0 : sigR s m = 0 := by unfold sigR; exact if_neg h
    have hS0 : sigS s m = 0 := by unfold sigS; exact if_neg h
    rw [k1, k2] at K
    rw [k2, hR0, hS0] at P5
    have key : ∃ x : Nat, x = 0 := ⟨_, rfl⟩
    by_cases hs0 : s = 0
    case' pos =>
      have t1 : decide ((1 : Int) ≤ (s : Int)) = false := by simp; omega
    case' neg =>
      have t1 : decide ((1 : Int) ≤ (s : Int)) = true := by simp; omega
      have t2 : decide ((s : Int) < 2305843009213693950) = false := by unfold QQ at h; simp; omega
    all_goals
      clear key h k1 k2 hR0 hS0 hs0
      go_enter Tryd.func5, Tryd.ntmps5
      go_wp2_with fail
      with_reducible refine K.out.mono ?_
      rintro e w1 ⟨rfl, hb1⟩
      have L1 := Lib.hid hb1
      clear hb1 K
      go_wp2_with fail
      with_reducible refine (P5.out w1 (HR.out.below L1.out h0) (Nat.lt_of_lt_of_le h0 L1.out.size) (HG.out.below L1.out)).mono ?_
      rintro e w2 ⟨rfl, hb2⟩
      have L2 : Hid (Below w.heap.size w w2) := Lib.hid (L1.out.trans (hb2.mono L1.out.size))
      clear hb2 L1 P5
      go_upto_region 5 with fail
      have X3 := Lib.hid (Bk.new w2 25 #[.int .u64 0, .int .u64 0])
      have Y3 : Hid (Below w2.heap.size w2 (w2.alloc (.cells #[.int .u64 0, .int .u64 0] 25))) := Lib.hid (by (first | assumption | (repeat (first | exact Below.refl _ _ | assumption | apply Below.drew | apply below_drewN | (refine Below.setCell ?_ (by (try simp) <;> omega) _) | (refine Below.alloc ?_ (by (try simp) <;> omega) _)))))
      (try simp only [Int.natCast_zero, Nat.cast_zero])
      obtain ⟨w3, hw3⟩ : ∃ W, w2.alloc (.cells #[.int .u64 0, .int .u64 0] 25) = W := ⟨_, rfl⟩
      rw [hw3] at X3 Y3 ⊢
      obtain ⟨ga, hga⟩ : ∃ x, w2.heap.size = x := ⟨_, rfl⟩
      have L3 : Hid (Below w.heap.size w w3) := Lib.hid (L2.out.trans (Y3.out.mono L2.out.size))
      rw [hga] at X3 ⊢
      clear hw3 hga Y3 L2
      have x0 := X3.out.cell 0
      have x1 := X3.out.cell 1
      go_wp2_with fail
      with_reducible refine (alive_any w3).mono ?_
      rintro e w4 ⟨rfl, hb4⟩
      have L4 : Hid (Below w.heap.size w w4) := Lib.hid (L3.out.trans (hb4.mono L3.out.size))
      clear hb4
      go_wp2_with fail
      go_ret
      exact ⟨rfl, L4.out⟩
theorem right_walk (s : Nat) (hsn : s < 18446744073709551616) (A : Option Addr) (m : List UInt8) (c : Nat) (hl : m.length ≤ c) (hc : c ≤ maxLen) {w : World} (hA : Sl w w.heap.size 1 A m.length (bts m)) (_ : World) (hr : Roots w ∧ 2 < w.heap.size) :
    Calls Tryd.prog 5 #[.int .u64 s, .slice A m.length c] w fun e w' => e = .returned (.bool true) ∧ Below w.heap.size w w' := right_any s A m c w hr.1 hr.2 hsn ⟨hl, hc, hA⟩
end Go.Proofs.YtcnmoallgfdomaaDoor

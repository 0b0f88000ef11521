/- What this text proves: the contract of the reference's Exceeds. The conditions are that bits are bits. -/
import Derived.Test.YtpbdlmkcomnjbaaLevK
import Derived.Lib.Mul64
import Derived.Deep.Cut
namespace Go.Proofs.Ytpbdlmkcomnjbaa
open Go.RowKit
set_option linter.unusedVariables false
set_option linter.unusedSimpArgs false

theorem split_tm (T m : Nat) (hT : T ≤ 1125899906842624) (hm : m < 9007199254740992) {t1 t0 m1 m0 a x1 x2 c bb d lo b1 h0 : Nat} (e1 : T / 4294967296 = t1) (e2 : T % 4294967296 = t0) (e3 : m / 4294967296 = m1) (e4 : m % 4294967296 = m0)
    (ea : t1 * m1 = a) (ex1 : t1 * m0 = x1) (ex2 : t0 * m1 = x2) (ec : t0 * m0 = c) (ebb : x1 + x2 = bb) (ed : bb * 4294967296 % 18446744073709551616 = d) (elo : (c + d) % 18446744073709551616 = lo) (eb1 : bb / 4294967296 = b1) (eh : a + b1 = h0) :
    a < 18446744073709551616 ∧ x1 < 9007199254740992 ∧ x2 < 18014398509481984 ∧ c < 18446744073709551616 ∧ lo < 18446744073709551616 ∧ h0 < 1099511627776 ∧ T * m = (if lo < c then h0 + 1 else h0) * 18446744073709551616 + lo := by
  have i1 : t1 ≤ 262144 := by omega
  have i2 : t0 ≤ 4294967295 := by omega
  have i3 : m1 ≤ 2097151 := by omega
  have i4 : m0 ≤ 4294967295 := by omega
  have ja : a ≤ 262144 * 2097151 := ea ▸ Nat.mul_le_mul i1 i3
  have jx1 : x1 ≤ 262144 * 4294967295 := ex1 ▸ Nat.mul_le_mul i1 i4
  have jx2 : x2 ≤ 4294967295 * 2097151 := ex2 ▸ Nat.mul_le_mul i2 i3
  have jc : c ≤ 4294967295 * 4294967295 := ec ▸ Nat.mul_le_mul i2 i4
  have hs := Lib.split_mul t1 t0 m1 m0 4294967296
  rw [ea, ex1, ex2, ec, show t1 * 4294967296 + t0 = T by omega, show m1 * 4294967296 + m0 = m by omega, ebb] at hs
  refine ⟨by omega, by omega, by omega, by omega, by omega, by omega, ?_⟩
  rw [hs]
  split <;> omega
theorem excB_ref {p T b : Nat} (h0 : 0 < b) (h1 : b ≤ one64) : ∃ S : Nat, partX b = -(S : Int) ∧ 52 ≤ S ∧ S ≤ 1074 ∧ partM b < 9007199254740992 ∧ excB p T b = decide (T * partM b < p * 2 ^ S) := by
  have o1 : one64 = 4607182418800017408 := rfl
  have hbn : bin = 4503599627370496 := rfl
  have hr : rg b = b := rg_pos (by omega)
  have hE : partE b ≤ 1023 := by unfold partE; rw [hr, hbn]; omega
  have hm : partM b = mg b := by
    unfold partM mg partE
    rw [hr]
    by_cases h : b < bin
    · rw [if_pos h, Nat.div_eq_of_lt h, if_pos (.inr rfl), Nat.mod_eq_of_lt h]
    · have h2 : b / bin ≠ 0 := by
        have := (Nat.one_le_div_iff (by decide : 0 < bin)).2 (by omega : bin ≤ b)
        omega
      unfold partE at hE
      rw [hr] at hE
      rw [if_neg h, if_neg (by omega), Nat.add_comm]
  have hX : partX b = -((1074 - pl b : Nat) : Int) ∧ pl b ≤ 1022 := by
    unfold partX pl
    have hE2 : partE b = b / bin := by unfold partE; rw [hr]
    rw [← hE2, if_neg (by omega)]
    refine ⟨?_, by omega⟩
    split <;> omega
  refine ⟨1074 - pl b, hX.1, by omega, by omega, ?_, ?_⟩
  · rw [hm]
    unfold mg
    have := Nat.mod_lt b (by decide : 0 < bin)
    split <;> omega
  · rw [hm]
    unfold excB
    congr 1
    apply propext
    have hv : val b = mg b * 2 ^ pl b := rfl
    have hbig : big = 2 ^ (1074 - pl b) * 2 ^ pl b := by
      rw [pow_two_add, show 1074 - pl b + pl b = tho by unfold tho; omega]
      rfl
    rw [hv, hbig, ← Nat.mul_assoc, ← Nat.mul_assoc, Nat.mul_lt_mul_right (Nat.two_pow_pos _)]

set_option maxHeartbeats 1000000 in
theorem rexc_c128 (p T b m S : Nat) (hT : (T : Int) ≤ 1125899906842624) (hm : (m : Int) < 9007199254740992) (hp : (p : Int) ≤ 9223372036854775807)
    (H1 : Hid (∀ w, Calls Try.prog 26 #[.float .f64 b] w fun e w' => e = .returned (.bool true) ∧ w' = w))
    (H2 : Hid (∀ w, Calls Try.prog 27 #[.float .f64 b] w fun e w' => e = .returned (.tuple #[.bool false, .int .u64 (m : Int), .int .i64 (-(S : Int))]) ∧ w' = w))
    (e1 : decide ((p : Int) < 0) = false) (e2 : decide ((T : Int) < 0) = false) (e3 : decide (1125899906842624 < (T : Int)) = false)
    (t1 t0 m1 m0 a x1 x2 c bb d lo b1 h0 h9 : Nat) (h1 : (T : Int) / 4294967296 = t1) (h2 : (T : Int) % 4294967296 = t0) (h3 : (m : Int) / 4294967296 = m1) (h4 : (m : Int) % 4294967296 = m0)
    (ha : IntKind.u64.wrap ((t1 : Int) * (m1 : Int)) = a) (hx1 : IntKind.u64.wrap ((t1 : Int) * (m0 : Int)) = x1) (hx2 : IntKind.u64.wrap ((t0 : Int) * (m1 : Int)) = x2) (hc : IntKind.u64.wrap ((t0 : Int) * (m0 : Int)) = c) (hbb : IntKind.u64.wrap ((x1 : Int) + (x2 : Int)) = bb) (hd : IntKind.u64.wrap ((bb : Int) * 4294967296) = d) (hlo : IntKind.u64.wrap ((c : Int) + (d : Int)) = lo) (hb1 : (bb : Int) / 4294967296 = b1) (hh : IntKind.u64.wrap ((a : Int) + (b1 : Int)) = h0) (HH9 : Hid (IntKind.u64.wrap ((h0 : Int) + 1) = h9))
    (hS2 : (S : Int) ≤ 1074) (HCAR : Hid (lo < c)) (H128 : Hid (128 ≤ S)) (w : World) : Calls Try.prog 12 #[.int .i64 p, .int .i64 T, .float .f64 b] w fun e w' => e = .returned (.tuple #[.bool (decide (0 < p)), .int .i64 0]) ∧ w' = w := by
  go_enter Try.func12, Try.ntmps12
  go_wp2_with fail
  with_reducible refine (H1.out _).mono ?_
  rintro e w1 ⟨rfl, rfl⟩
  go_wp2_with fail
  with_reducible refine (H2.out _).mono ?_
  rintro e w1 ⟨rfl, rfl⟩
  go_upto_region 12 with fail
  clear ha hx1 hx2 hc hbb hd hlo hb1 hh h1 h2 h3 h4 e1 e2 e3 hT hm
  have hcar := HCAR.out
  have hh9 := HH9.out
  go_upto_region 14 with fail
  clear hcar hh9
  have e4 : decide (128 ≤ (S : Int)) = true := decide_eq_true (by have := H128.out; omega)
  go_wp2_with fail
  go_ret2
  exact ⟨rfl, rfl⟩

set_option maxHeartbeats 1000000 in
theorem rexc_c64 (p T b m S : Nat) (hT : (T : Int) ≤ 1125899906842624) (hm : (m : Int) < 9007199254740992) (hp : (p : Int) ≤ 9223372036854775807)
    (H1 : Hid (∀ w, Calls Try.prog 26 #[.float .f64 b] w fun e w' => e = .returned (.bool true) ∧ w' = w))
    (H2 : Hid (∀ w, Calls Try.prog 27 #[.float .f64 b] w fun e w' => e = .returned (.tuple #[.bool false, .int .u64 (m : Int), .int .i64 (-(S : Int))]) ∧ w' = w))
    (e1 : decide ((p : Int) < 0) = false) (e2 : decide ((T : Int) < 0) = false) (e3 : decide (1125899906842624 < (T : Int)) = false)
    (t1 t0 m1 m0 a x1 x2 c bb d lo b1 h0 h9 : Nat) (h1 : (T : Int) / 4294967296 = t1) (h2 : (T : Int) % 4294967296 = t0) (h3 : (m : Int) / 4294967296 = m1) (h4 : (m : Int) % 4294967296 = m0)
    (ha : IntKind.u64.wrap ((t1 : Int) * (m1 : Int)) = a) (hx1 : IntKind.u64.wrap ((t1 : Int) * (m0 : Int)) = x1) (hx2 : IntKind.u64.wrap ((t0 : Int) * (m1 : Int)) = x2) (hc : IntKind.u64.wrap ((t0 : Int) * (m0 : Int)) = c) (hbb : IntKind.u64.wrap ((x1 : Int) + (x2 : Int)) = bb) (hd : IntKind.u64.wrap ((bb : Int) * 4294967296) = d) (hlo : IntKind.u64.wrap ((c : Int) + (d : Int)) = lo) (hb1 : (bb : Int) / 4294967296 = b1) (hh : IntKind.u64.wrap ((a : Int) + (b1 : Int)) = h0) (HH9 : Hid (IntKind.u64.wrap ((h0 : Int) + 1) = h9))
    (hS2 : (S : Int) ≤ 1074) (HCAR : Hid (lo < c)) (H128 : Hid (64 ≤ S ∧ S < 128)) (ov up : Nat) (HOV : Hid ((p : Int) / 2 ^ (128 - S) = (ov : Int))) (HUP : Hid (IntKind.u64.wrap ((p : Int) * 2 ^ (S - 64)) = (up : Int))) (w : World) : Calls Try.prog 12 #[.int .i64 p, .int .i64 T, .float .f64 b] w fun e w' => e = .returned (.tuple #[.bool (decide (0 < ov) || decide (h9 < up)), .int .i64 0]) ∧ w' = w := by
  by_cases ho : 0 < ov
  · rw [decide_eq_true ho, Bool.true_or]
    have HO := Lib.hid ho
    clear ho
    go_enter Try.func12, Try.ntmps12
    go_wp2_with fail
    with_reducible refine (H1.out _).mono ?_
    rintro e w1 ⟨rfl, rfl⟩
    go_wp2_with fail
    with_reducible refine (H2.out _).mono ?_
    rintro e w1 ⟨rfl, rfl⟩
    go_upto_region 12 with fail
    clear ha hx1 hx2 hc hbb hd hlo hb1 hh h1 h2 h3 h4 e1 e2 e3 hT hm
    have hcar := HCAR.out
    have hh9 := HH9.out
    go_upto_region 14 with fail
    clear hcar hh9
    have e4 : decide (128 ≤ (S : Int)) = false := decide_eq_false (by have := H128.out; omega)
    have e5 : decide (64 ≤ (S : Int)) = true := decide_eq_true (by have := H128.out; omega)
    have b1_ : (64 : Int) ≤ (S : Int) := by have := H128.out; omega
    have b2_ : (S : Int) < 128 := by have := H128.out; omega
    have hov := HOV.out
    have ho := HO.out
    go_wp2_with fail
    go_ret2
    exact ⟨rfl, rfl⟩
  · obtain rfl : ov = 0 := by omega
    rw [show decide (0 < 0) = false from rfl, Bool.false_or]
    clear ho
    go_enter Try.func12, Try.ntmps12
    go_wp2_with fail
    with_reducible refine (H1.out _).mono ?_
    rintro e w1 ⟨rfl, rfl⟩
    go_wp2_with fail
    with_reducible refine (H2.out _).mono ?_
    rintro e w1 ⟨rfl, rfl⟩
    go_upto_region 12 with fail
    clear ha hx1 hx2 hc hbb hd hlo hb1 hh h1 h2 h3 h4 e1 e2 e3 hT hm
    have hcar := HCAR.out
    have hh9 := HH9.out
    go_upto_region 14 with fail
    clear hcar hh9
    have e4 : decide (128 ≤ (S : Int)) = false := decide_eq_false (by have := H128.out; omega)
    have e5 : decide (64 ≤ (S : Int)) = true := decide_eq_true (by have := H128.out; omega)
    have b1_ : (64 : Int) ≤ (S : Int) := by have := H128.out; omega
    have b2_ : (S : Int) < 128 := by have := H128.out; omega
    have hov : (p : Int) / 2 ^ (128 - S) = 0 := HOV.out
    have hup := HUP.out
    go_wp2_with fail
    go_ret2
    exact ⟨rfl, rfl⟩

set_option maxHeartbeats 1000000 in
theorem rexc_c0 (p T b m S : Nat) (hT : (T : Int) ≤ 1125899906842624) (hm : (m : Int) < 9007199254740992) (hp : (p : Int) ≤ 9223372036854775807)
    (H1 : Hid (∀ w, Calls Try.prog 26 #[.float .f64 b] w fun e w' => e = .returned (.bool true) ∧ w' = w))
    (H2 : Hid (∀ w, Calls Try.prog 27 #[.float .f64 b] w fun e w' => e = .returned (.tuple #[.bool false, .int .u64 (m : Int), .int .i64 (-(S : Int))]) ∧ w' = w))
    (e1 : decide ((p : Int) < 0) = false) (e2 : decide ((T : Int) < 0) = false) (e3 : decide (1125899906842624 < (T : Int)) = false)
    (t1 t0 m1 m0 a x1 x2 c bb d lo b1 h0 h9 : Nat) (h1 : (T : Int) / 4294967296 = t1) (h2 : (T : Int) % 4294967296 = t0) (h3 : (m : Int) / 4294967296 = m1) (h4 : (m : Int) % 4294967296 = m0)
    (ha : IntKind.u64.wrap ((t1 : Int) * (m1 : Int)) = a) (hx1 : IntKind.u64.wrap ((t1 : Int) * (m0 : Int)) = x1) (hx2 : IntKind.u64.wrap ((t0 : Int) * (m1 : Int)) = x2) (hc : IntKind.u64.wrap ((t0 : Int) * (m0 : Int)) = c) (hbb : IntKind.u64.wrap ((x1 : Int) + (x2 : Int)) = bb) (hd : IntKind.u64.wrap ((bb : Int) * 4294967296) = d) (hlo : IntKind.u64.wrap ((c : Int) + (d : Int)) = lo) (hb1 : (bb : Int) / 4294967296 = b1) (hh : IntKind.u64.wrap ((a : Int) + (b1 : Int)) = h0) (HH9 : Hid (IntKind.u64.wrap ((h0 : Int) + 1) = h9))
    (hS2 : (S : Int) ≤ 1074) (HCAR : Hid (lo < c)) (H128 : Hid (S < 64)) (up dn : Nat) (HUP : Hid ((p : Int) / 2 ^ (64 - S) = (up : Int))) (HDN : Hid (IntKind.u64.wrap ((p : Int) * 2 ^ S) = (dn : Int))) (w : World) : Calls Try.prog 12 #[.int .i64 p, .int .i64 T, .float .f64 b] w fun e w' => e = .returned (.tuple #[.bool (decide (h9 < up) || (up == h9 && decide (lo < dn))), .int .i64 0]) ∧ w' = w := by
  by_cases g1 : h9 < up
  · rw [decide_eq_true g1, Bool.true_or]
    have G1 := Lib.hid g1
    clear g1
    go_enter Try.func12, Try.ntmps12
    go_wp2_with fail
    with_reducible refine (H1.out _).mono ?_
    rintro e w1 ⟨rfl, rfl⟩
    go_wp2_with fail
    with_reducible refine (H2.out _).mono ?_
    rintro e w1 ⟨rfl, rfl⟩
    go_upto_region 12 with fail
    clear ha hx1 hx2 hc hbb hd hlo hb1 hh h1 h2 h3 h4 e1 e2 e3 hT hm
    have hcar := HCAR.out
    have hh9 := HH9.out
    go_upto_region 14 with fail
    clear hcar hh9
    have e4 : decide (128 ≤ (S : Int)) = false := decide_eq_false (by have := H128.out; omega)
    have e5 : decide (64 ≤ (S : Int)) = false := decide_eq_false (by have := H128.out; omega)
    have b1_ : (S : Int) < 64 := by have := H128.out; omega
    have hup := HUP.out
    have hdn := HDN.out
    have g1 : h9 < up := G1.out
    go_wp2_with fail
    go_ret2
    exact ⟨rfl, rfl⟩
  · rw [decide_eq_false g1, Bool.false_or]
    by_cases g2 : up = h9
    · rw [show (up == h9) = true from beq_iff_eq.2 g2, Bool.true_and]
      have G1 := Lib.hid g1
      have G2 := Lib.hid g2
      clear g1 g2
      go_enter Try.func12, Try.ntmps12
      go_wp2_with fail
      with_reducible refine (H1.out _).mono ?_
      rintro e w1 ⟨rfl, rfl⟩
      go_wp2_with fail
      with_reducible refine (H2.out _).mono ?_
      rintro e w1 ⟨rfl, rfl⟩
      go_upto_region 12 with fail
      clear ha hx1 hx2 hc hbb hd hlo hb1 hh h1 h2 h3 h4 e1 e2 e3 hT hm
      have hcar := HCAR.out
      have hh9 := HH9.out
      go_upto_region 14 with fail
      clear hcar hh9
      have e4 : decide (128 ≤ (S : Int)) = false := decide_eq_false (by have := H128.out; omega)
      have e5 : decide (64 ≤ (S : Int)) = false := decide_eq_false (by have := H128.out; omega)
      have b1_ : (S : Int) < 64 := by have := H128.out; omega
      have hup := HUP.out
      have hdn := HDN.out
      have g1 : ¬ h9 < up := G1.out
      have g2 : up = h9 := G2.out
      go_wp2_with fail
      go_ret2
      exact ⟨rfl, rfl⟩
    · rw [show (up == h9) = false from beq_eq_false_iff_ne.2 g2, Bool.false_and]
      have G1 := Lib.hid g1
      have G2 := Lib.hid g2
      clear g1 g2
      go_enter Try.func12, Try.ntmps12
      go_wp2_with fail
      with_reducible refine (H1.out _).mono ?_
      rintro e w1 ⟨rfl, rfl⟩
      go_wp2_with fail
      with_reducible refine (H2.out _).mono ?_
      rintro e w1 ⟨rfl, rfl⟩
      go_upto_region 12 with fail
      clear ha hx1 hx2 hc hbb hd hlo hb1 hh h1 h2 h3 h4 e1 e2 e3 hT hm
      have hcar := HCAR.out
      have hh9 := HH9.out
      go_upto_region 14 with fail
      clear hcar hh9
      have e4 : decide (128 ≤ (S : Int)) = false := decide_eq_false (by have := H128.out; omega)
      have e5 : decide (64 ≤ (S : Int)) = false := decide_eq_false (by have := H128.out; omega)
      have b1_ : (S : Int) < 64 := by have := H128.out; omega
      have hup := HUP.out
      have hdn := HDN.out
      have g1 : ¬ h9 < up := G1.out
      have g2 : ¬ up = h9 := G2.out
      go_wp2_with fail
      go_ret2
      exact ⟨rfl, rfl⟩

set_option maxHeartbeats 1000000 in
theorem rexc_n128 (p T b m S : Nat) (hT : (T : Int) ≤ 1125899906842624) (hm : (m : Int) < 9007199254740992) (hp : (p : Int) ≤ 9223372036854775807)
    (H1 : Hid (∀ w, Calls Try.prog 26 #[.float .f64 b] w fun e w' => e = .returned (.bool true) ∧ w' = w))
    (H2 : Hid (∀ w, Calls Try.prog 27 #[.float .f64 b] w fun e w' => e = .returned (.tuple #[.bool false, .int .u64 (m : Int), .int .i64 (-(S : Int))]) ∧ w' = w))
    (e1 : decide ((p : Int) < 0) = false) (e2 : decide ((T : Int) < 0) = false) (e3 : decide (1125899906842624 < (T : Int)) = false)
    (t1 t0 m1 m0 a x1 x2 c bb d lo b1 h0 h9 : Nat) (h1 : (T : Int) / 4294967296 = t1) (h2 : (T : Int) % 4294967296 = t0) (h3 : (m : Int) / 4294967296 = m1) (h4 : (m : Int) % 4294967296 = m0)
    (ha : IntKind.u64.wrap ((t1 : Int) * (m1 : Int)) = a) (hx1 : IntKind.u64.wrap ((t1 : Int) * (m0 : Int)) = x1) (hx2 : IntKind.u64.wrap ((t0 : Int) * (m1 : Int)) = x2) (hc : IntKind.u64.wrap ((t0 : Int) * (m0 : Int)) = c) (hbb : IntKind.u64.wrap ((x1 : Int) + (x2 : Int)) = bb) (hd : IntKind.u64.wrap ((bb : Int) * 4294967296) = d) (hlo : IntKind.u64.wrap ((c : Int) + (d : Int)) = lo) (hb1 : (bb : Int) / 4294967296 = b1) (hh : IntKind.u64.wrap ((a : Int) + (b1 : Int)) = h0) (HH9 : Hid (IntKind.u64.wrap ((h0 : Int) + 1) = h9))
    (hS2 : (S : Int) ≤ 1074) (HCAR : Hid (¬ lo < c)) (H128 : Hid (128 ≤ S)) (w : World) : Calls Try.prog 12 #[.int .i64 p, .int .i64 T, .float .f64 b] w fun e w' => e = .returned (.tuple #[.bool (decide (0 < p)), .int .i64 0]) ∧ w' = w := by
  go_enter Try.func12, Try.ntmps12
  go_wp2_with fail
  with_reducible refine (H1.out _).mono ?_
  rintro e w1 ⟨rfl, rfl⟩
  go_wp2_with fail
  with_reducible refine (H2.out _).mono ?_
  rintro e w1 ⟨rfl, rfl⟩
  go_upto_region 12 with fail
  clear ha hx1 hx2 hc hbb hd hlo hb1 hh h1 h2 h3 h4 e1 e2 e3 hT hm
  have hcar := HCAR.out
  go_upto_region 14 with fail
  clear hcar
  have e4 : decide (128 ≤ (S : Int)) = true := decide_eq_true (by have := H128.out; omega)
  go_wp2_with fail
  go_ret2
  exact ⟨rfl, rfl⟩

set_option maxHeartbeats 1000000 in
theorem rexc_n64 (p T b m S : Nat) (hT : (T : Int) ≤ 1125899906842624) (hm : (m : Int) < 9007199254740992) (hp : (p : Int) ≤ 9223372036854775807)
    (H1 : Hid (∀ w, Calls Try.prog 26 #[.float .f64 b] w fun e w' => e = .returned (.bool true) ∧ w' = w))
    (H2 : Hid (∀ w, Calls Try.prog 27 #[.float .f64 b] w fun e w' => e = .returned (.tuple #[.bool false, .int .u64 (m : Int), .int .i64 (-(S : Int))]) ∧ w' = w))
    (e1 : decide ((p : Int) < 0) = false) (e2 : decide ((T : Int) < 0) = false) (e3 : decide (1125899906842624 < (T : Int)) = false)
    (t1 t0 m1 m0 a x1 x2 c bb d lo b1 h0 h9 : Nat) (h1 : (T : Int) / 4294967296 = t1) (h2 : (T : Int) % 4294967296 = t0) (h3 : (m : Int) / 4294967296 = m1) (h4 : (m : Int) % 4294967296 = m0)
    (ha : IntKind.u64.wrap ((t1 : Int) * (m1 : Int)) = a) (hx1 : IntKind.u64.wrap ((t1 : Int) * (m0 : Int)) = x1) (hx2 : IntKind.u64.wrap ((t0 : Int) * (m1 : Int)) = x2) (hc : IntKind.u64.wrap ((t0 : Int) * (m0 : Int)) = c) (hbb : IntKind.u64.wrap ((x1 : Int) + (x2 : Int)) = bb) (hd : IntKind.u64.wrap ((bb : Int) * 4294967296) = d) (hlo : IntKind.u64.wrap ((c : Int) + (d : Int)) = lo) (hb1 : (bb : Int) / 4294967296 = b1) (hh : IntKind.u64.wrap ((a : Int) + (b1 : Int)) = h0) (HH9 : Hid (IntKind.u64.wrap ((h0 : Int) + 1) = h9))
    (hS2 : (S : Int) ≤ 1074) (HCAR : Hid (¬ lo < c)) (H128 : Hid (64 ≤ S ∧ S < 128)) (ov up : Nat) (HOV : Hid ((p : Int) / 2 ^ (128 - S) = (ov : Int))) (HUP : Hid (IntKind.u64.wrap ((p : Int) * 2 ^ (S - 64)) = (up : Int))) (w : World) : Calls Try.prog 12 #[.int .i64 p, .int .i64 T, .float .f64 b] w fun e w' => e = .returned (.tuple #[.bool (decide (0 < ov) || decide (h0 < up)), .int .i64 0]) ∧ w' = w := by
  by_cases ho : 0 < ov
  · rw [decide_eq_true ho, Bool.true_or]
    have HO := Lib.hid ho
    clear ho
    go_enter Try.func12, Try.ntmps12
    go_wp2_with fail
    with_reducible refine (H1.out _).mono ?_
    rintro e w1 ⟨rfl, rfl⟩
    go_wp2_with fail
    with_reducible refine (H2.out _).mono ?_
    rintro e w1 ⟨rfl, rfl⟩
    go_upto_region 12 with fail
    clear ha hx1 hx2 hc hbb hd hlo hb1 hh h1 h2 h3 h4 e1 e2 e3 hT hm
    have hcar := HCAR.out
    go_upto_region 14 with fail
    clear hcar
    have e4 : decide (128 ≤ (S : Int)) = false := decide_eq_false (by have := H128.out; omega)
    have e5 : decide (64 ≤ (S : Int)) = true := decide_eq_true (by have := H128.out; omega)
    have b1_ : (64 : Int) ≤ (S : Int) := by have := H128.out; omega
    have b2_ : (S : Int) < 128 := by have := H128.out; omega
    have hov := HOV.out
    have ho := HO.out
    go_wp2_with fail
    go_ret2
    exact ⟨rfl, rfl⟩
  · obtain rfl : ov = 0 := by omega
    rw [show decide (0 < 0) = false from rfl, Bool.false_or]
    clear ho
    go_enter Try.func12, Try.ntmps12
    go_wp2_with fail
    with_reducible refine (H1.out _).mono ?_
    rintro e w1 ⟨rfl, rfl⟩
    go_wp2_with fail
    with_reducible refine (H2.out _).mono ?_
    rintro e w1 ⟨rfl, rfl⟩
    go_upto_region 12 with fail
    clear ha hx1 hx2 hc hbb hd hlo hb1 hh h1 h2 h3 h4 e1 e2 e3 hT hm
    have hcar := HCAR.out
    go_upto_region 14 with fail
    clear hcar
    have e4 : decide (128 ≤ (S : Int)) = false := decide_eq_false (by have := H128.out; omega)
    have e5 : decide (64 ≤ (S : Int)) = true := decide_eq_true (by have := H128.out; omega)
    have b1_ : (64 : Int) ≤ (S : Int) := by have := H128.out; omega
    have b2_ : (S : Int) < 128 := by have := H128.out; omega
    have hov : (p : Int) / 2 ^ (128 - S) = 0 := HOV.out
    have hup := HUP.out
    go_wp2_with fail
    go_ret2
    exact ⟨rfl, rfl⟩

set_option maxHeartbeats 1000000 in
theorem rexc_n0 (p T b m S : Nat) (hT : (T : Int) ≤ 1125899906842624) (hm : (m : Int) < 9007199254740992) (hp : (p : Int) ≤ 9223372036854775807)
    (H1 : Hid (∀ w, Calls Try.prog 26 #[.float .f64 b] w fun e w' => e = .returned (.bool true) ∧ w' = w))
    (H2 : Hid (∀ w, Calls Try.prog 27 #[.float .f64 b] w fun e w' => e = .returned (.tuple #[.bool false, .int .u64 (m : Int), .int .i64 (-(S : Int))]) ∧ w' = w))
    (e1 : decide ((p : Int) < 0) = false) (e2 : decide ((T : Int) < 0) = false) (e3 : decide (1125899906842624 < (T : Int)) = false)
    (t1 t0 m1 m0 a x1 x2 c bb d lo b1 h0 h9 : Nat) (h1 : (T : Int) / 4294967296 = t1) (h2 : (T : Int) % 4294967296 = t0) (h3 : (m : Int) / 4294967296 = m1) (h4 : (m : Int) % 4294967296 = m0)
    (ha : IntKind.u64.wrap ((t1 : Int) * (m1 : Int)) = a) (hx1 : IntKind.u64.wrap ((t1 : Int) * (m0 : Int)) = x1) (hx2 : IntKind.u64.wrap ((t0 : Int) * (m1 : Int)) = x2) (hc : IntKind.u64.wrap ((t0 : Int) * (m0 : Int)) = c) (hbb : IntKind.u64.wrap ((x1 : Int) + (x2 : Int)) = bb) (hd : IntKind.u64.wrap ((bb : Int) * 4294967296) = d) (hlo : IntKind.u64.wrap ((c : Int) + (d : Int)) = lo) (hb1 : (bb : Int) / 4294967296 = b1) (hh : IntKind.u64.wrap ((a : Int) + (b1 : Int)) = h0) (HH9 : Hid (IntKind.u64.wrap ((h0 : Int) + 1) = h9))
    (hS2 : (S : Int) ≤ 1074) (HCAR : Hid (¬ lo < c)) (H128 : Hid (S < 64)) (up dn : Nat) (HUP : Hid ((p : Int) / 2 ^ (64 - S) = (up : Int))) (HDN : Hid (IntKind.u64.wrap ((p : Int) * 2 ^ S) = (dn : Int))) (w : World) : Calls Try.prog 12 #[.int .i64 p, .int .i64 T, .float .f64 b] w fun e w' => e = .returned (.tuple #[.bool (decide (h0 < up) || (up == h0 && decide (lo < dn))), .int .i64 0]) ∧ w' = w := by
  by_cases g1 : h0 < up
  · rw [decide_eq_true g1, Bool.true_or]
    have G1 := Lib.hid g1
    clear g1
    go_enter Try.func12, Try.ntmps12
    go_wp2_with fail
    with_reducible refine (H1.out _).mono ?_
    rintro e w1 ⟨rfl, rfl⟩
    go_wp2_with fail
    with_reducible refine (H2.out _).mono ?_
    rintro e w1 ⟨rfl, rfl⟩
    go_upto_region 12 with fail
    clear ha hx1 hx2 hc hbb hd hlo hb1 hh h1 h2 h3 h4 e1 e2 e3 hT hm
    have hcar := HCAR.out
    go_upto_region 14 with fail
    clear hcar
    have e4 : decide (128 ≤ (S : Int)) = false := decide_eq_false (by have := H128.out; omega)
    have e5 : decide (64 ≤ (S : Int)) = false := decide_eq_false (by have := H128.out; omega)
    have b1_ : (S : Int) < 64 := by have := H128.out; omega
    have hup := HUP.out
    have hdn := HDN.out
    have g1 : h0 < up := G1.out
    go_wp2_with fail
    go_ret2
    exact ⟨rfl, rfl⟩
  · rw [decide_eq_false g1, Bool.false_or]
    by_cases g2 : up = h0
    · rw [show (up == h0) = true from beq_iff_eq.2 g2, Bool.true_and]
      have G1 := Lib.hid g1
      have G2 := Lib.hid g2
      clear g1 g2
      go_enter Try.func12, Try.ntmps12
      go_wp2_with fail
      with_reducible refine (H1.out _).mono ?_
      rintro e w1 ⟨rfl, rfl⟩
      go_wp2_with fail
      with_reducible refine (H2.out _).mono ?_
      rintro e w1 ⟨rfl, rfl⟩
      go_upto_region 12 with fail
      clear ha hx1 hx2 hc hbb hd hlo hb1 hh h1 h2 h3 h4 e1 e2 e3 hT hm
      have hcar := HCAR.out
      go_upto_region 14 with fail
      clear hcar
      have e4 : decide (128 ≤ (S : Int)) = false := decide_eq_false (by have := H128.out; omega)
      have e5 : decide (64 ≤ (S : Int)) = false := decide_eq_false (by have := H128.out; omega)
      have b1_ : (S : Int) < 64 := by have := H128.out; omega
      have hup := HUP.out
      have hdn := HDN.out
      have g1 : ¬ h0 < up := G1.out
      have g2 : up = h0 := G2.out
      go_wp2_with fail
      go_ret2
      exact ⟨rfl, rfl⟩
    · rw [show (up == h0) = false from beq_eq_false_iff_ne.2 g2, Bool.false_and]
      have G1 := Lib.hid g1
      have G2 := Lib.hid g2
      clear g1 g2
      go_enter Try.func12, Try.ntmps12
      go_wp2_with fail
      with_reducible refine (H1.out _).mono ?_
      rintro e w1 ⟨rfl, rfl⟩
      go_wp2_with fail
      with_reducible refine (H2.out _).mono ?_
      rintro e w1 ⟨rfl, rfl⟩
      go_upto_region 12 with fail
      clear ha hx1 hx2 hc hbb hd hlo hb1 hh h1 h2 h3 h4 e1 e2 e3 hT hm
      have hcar := HCAR.out
      go_upto_region 14 with fail
      clear hcar
      have e4 : decide (128 ≤ (S : Int)) = false := decide_eq_false (by have := H128.out; omega)
      have e5 : decide (64 ≤ (S : Int)) = false := decide_eq_false (by have := H128.out; omega)
      have b1_ : (S : Int) < 64 := by have := H128.out; omega
      have hup := HUP.out
      have hdn := HDN.out
      have g1 : ¬ h0 < up := G1.out
      have g2 : ¬ up = h0 := G2.out
      go_wp2_with fail
      go_ret2
      exact ⟨rfl, rfl⟩

end Go.Proofs.Ytpbdlmkcomnjbaa

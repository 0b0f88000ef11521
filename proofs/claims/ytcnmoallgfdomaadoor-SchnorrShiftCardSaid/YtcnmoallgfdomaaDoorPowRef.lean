/- What this text proves: the contracts of the reference's times, Power, Key, and of the law's product: products bit by bit, powers from the left. The conditions are that the numbers fit. -/
import Derived.Test.YtcnmoallgfdomaaDoorPow
namespace Go.Proofs.YtcnmoallgfdomaaDoor
open Go.RowKit
set_option linter.unusedVariables false
set_option linter.unusedSimpArgs false

theorem shr_int (b k x : Nat) (h : b / 2 ^ k = x) : (b : Int) / 2 ^ k = (x : Int) := by
  rw [← h, Int.natCast_ediv, Int.natCast_pow]
  rfl

set_option maxHeartbeats 2000000 in
theorem rtimes_any (a0 b0 m : Nat) (w : World) (ha : a0 < 18446744073709551616) (hb : b0 < 18446744073709551616) (h4 : 1152921504606846976 ≤ m) (h5 : m < 2305843009213693952) :
    Calls Tryd.prog 19 #[.int .u64 a0, .int .u64 b0, .int .u64 m] w fun e w' => e = .returned (.int .u64 ((a0 * b0 % m : Nat) : Int)) ∧ w = w' := by
  have e1 : ((m : Int) == 0) = false := by simp; omega
  have e2 : ¬ m = 0 := by omega
  have e3 : ¬ (m : Int) = 0 := by omega
  obtain ⟨a, hx⟩ : ∃ x, a0 % m = x := ⟨_, rfl⟩
  obtain ⟨b, hy⟩ : ∃ y, b0 % m = y := ⟨_, rfl⟩
  have ham : a < m := by rw [← hx]; exact Nat.mod_lt _ (by omega)
  have hbm : b < m := by rw [← hy]; exact Nat.mod_lt _ (by omega)
  have q1 : (a0 : Int) % (m : Int) = (a : Int) := by rw [← hx]; rfl
  have q2 : (b0 : Int) % (m : Int) = (b : Int) := by rw [← hy]; rfl
  have HR := Lib.hid (show a * b % m = a0 * b0 % m by rw [← hx, ← hy, ← Nat.mul_mod])
  clear hx hy
  obtain ⟨R, hR⟩ : ∃ R, a0 * b0 % m = R := ⟨_, rfl⟩
  rw [hR] at HR ⊢
  clear hR
  go_enter Tryd.func19, Tryd.ntmps19
  go_wp2_with fail
  go_loop [7, 8] (fun s7 s8 => ∃ n j : Nat, s7 = .int .u64 (n : Int) ∧ s8 = .int .i64 ((j : Int) - 1) ∧ n < m ∧ j ≤ 62 ∧ Hid (n = a * (b / 2 ^ j) % m)) (fun _ s8 => (intOf s8 + 1).toNat)
  case atStart => exact ⟨0, 62, rfl, rfl, by omega, Nat.le_refl _, Lib.hid (by rw [Nat.div_eq_of_lt (Nat.lt_of_lt_of_le hbm (Nat.le_trans (Nat.le_of_lt h5) (by decide))), Nat.mul_zero, Nat.zero_mod])⟩
  case round =>
    obtain ⟨n, j, rfl, rfl, ln, lj, H⟩ := hrel
    rcases Nat.eq_zero_or_pos j with h0 | h0
    · subst h0
      go_wp2_with fail
      go_ret
      have h := H.out
      rw [Nat.pow_zero, Nat.div_one, HR.out] at h
      exact ⟨by rw [← h]; rfl, rfl⟩
    · obtain ⟨k, rfl⟩ : ∃ k, j = k + 1 := ⟨j - 1, by omega⟩
      rw [show (((k + 1 : Nat) : Int) - 1) = (k : Int) from by omega]
      obtain ⟨x, hx⟩ : ∃ x, b / 2 ^ k = x := ⟨_, rfl⟩
      have h := H.out
      rw [shr_succ, hx] at h
      have hxi := shr_int b k x hx
      obtain ⟨n2, hn2⟩ : ∃ n2, 2 * n % m = n2 := ⟨_, rfl⟩
      have l2 : n2 < m := by rw [← hn2]; exact Nat.mod_lt _ (by omega)
      have q3 : 2 * (n : Int) % (m : Int) = (n2 : Int) := by rw [← hn2]; rfl
      have HX := Lib.hid hx
      clear hx H
      rcases Nat.mod_two_eq_zero_or_one x with hm | hm
      · have t1 : ((x : Int) % 2 == 1) = false := by simp; omega
        have HF := Lib.hid (show n2 = a * (b / 2 ^ k) % m by rw [HX.out, ← hn2, mul_bit0 h hm])
        clear hm h hn2
        go_wp2_with fail
        go_round
        case rel => exact ⟨n2, k, by first | rfl | rw [q3], rfl, l2, by omega, HF⟩
        case measure => first | (simp [intOf]; done) | (simp [intOf]; omega)
      · have t1 : ((x : Int) % 2 == 1) = true := by simp; omega
        obtain ⟨n3, hn3⟩ : ∃ n3, (n2 + a) % m = n3 := ⟨_, rfl⟩
        have l3 : n3 < m := by rw [← hn3]; exact Nat.mod_lt _ (by omega)
        have q4 : ((n2 : Int) + (a : Int)) % (m : Int) = (n3 : Int) := by rw [← hn3]; rfl
        have HF := Lib.hid (show n3 = a * (b / 2 ^ k) % m by rw [HX.out, ← hn3, ← hn2, mul_bit1 h hm])
        clear hm h hn2 hn3
        go_wp2_with fail
        go_round
        case rel => exact ⟨n3, k, by first | rfl | rw [q4], rfl, l3, by omega, HF⟩
        case measure => first | (simp [intOf]; done) | (simp [intOf]; omega)

theorem rtimesP (a b : Nat) (w : World) (ha : a < 18446744073709551616) (hb : b < 18446744073709551616) :
    Calls Tryd.prog 19 #[.int .u64 a, .int .u64 b, .int .u64 2305843009213693951] w fun e w' => e = .returned (.int .u64 ((a * b % PP : Nat) : Int)) ∧ w = w' := by
  have := rtimes_any a b PP w ha hb PP_bd.1 PP_bd.2.1
  rwa [PP_int] at this

set_option maxHeartbeats 2000000 in
theorem rpower_any (b0 e0 : Nat) (w : World) (hb : b0 < 18446744073709551616) (he : e0 < 18446744073709551616) :
    Calls Tryd.prog 18 #[.int .u64 b0, .int .u64 e0] w fun e w' => e = .returned (.int .u64 ((b0 ^ e0 % PP : Nat) : Int)) ∧ w = w' := by
  have HP := PP_bd
  go_enter Tryd.func18, Tryd.ntmps18
  go_wp2_with fail
  go_loopw [5, 6] (fun s5 s6 wr => ∃ n j : Nat, s5 = .int .u64 (n : Int) ∧ s6 = .int .i64 ((j : Int) - 1) ∧ n < PP ∧ j ≤ 64 ∧ Hid (n = b0 ^ (e0 / 2 ^ j) % PP) ∧ wr = w) (fun _ s6 _ => (intOf s6 + 1).toNat)
  case atStart => exact ⟨1, 64, rfl, rfl, HP.2.2, Nat.le_refl _, Lib.hid (by rw [Nat.div_eq_of_lt (Nat.lt_of_lt_of_le he (by decide)), Nat.pow_zero, Nat.mod_eq_of_lt HP.2.2]), rfl⟩
  case round =>
    obtain ⟨n, j, rfl, rfl, ln, lj, H, rfl⟩ := hrel
    rcases Nat.eq_zero_or_pos j with h0 | h0
    · subst h0
      go_wp2_with fail
      go_ret
      have h := H.out
      rw [Nat.pow_zero, Nat.div_one] at h
      exact ⟨by rw [← h]; rfl, rfl⟩
    · obtain ⟨k, rfl⟩ : ∃ k, j = k + 1 := ⟨j - 1, by omega⟩
      rw [show (((k + 1 : Nat) : Int) - 1) = (k : Int) from by omega]
      obtain ⟨x, hx⟩ : ∃ x, e0 / 2 ^ k = x := ⟨_, rfl⟩
      have h := H.out
      rw [shr_succ, hx] at h
      have hxi := shr_int e0 k x hx
      have HX := Lib.hid hx
      have HT := Lib.hid (rtimesP n n wr (by omega) (by omega))
      obtain ⟨n2, hn2⟩ : ∃ n2, n * n % PP = n2 := ⟨_, rfl⟩
      have l2 : n2 < PP := by rw [← hn2]; exact Nat.mod_lt _ (by omega)
      rw [hn2] at HT
      clear hx H
      rcases Nat.mod_two_eq_zero_or_one x with hm | hm
      · have t1 : ((x : Int) % 2 == 1) = false := by simp; omega
        have HF := Lib.hid (show n2 = b0 ^ (e0 / 2 ^ k) % PP by rw [HX.out, ← hn2, pow_bit0 h hm])
        clear hm h hn2
        go_wp2_with fail
        with_reducible refine HT.out.mono ?_
        rintro e w' ⟨rfl, rfl⟩
        go_wp2_with fail
        go_roundw
        case rel => exact ⟨n2, k, rfl, rfl, l2, by omega, HF, by trivial⟩
        case measure => first | (simp [intOf]; done) | (simp [intOf]; omega)
      · have t1 : ((x : Int) % 2 == 1) = true := by simp; omega
        obtain ⟨n3, hn3⟩ : ∃ n3, n2 * b0 % PP = n3 := ⟨_, rfl⟩
        have l3 : n3 < PP := by rw [← hn3]; exact Nat.mod_lt _ (by omega)
        have HT2 := Lib.hid (rtimesP n2 b0 wr (by omega) hb)
        rw [hn3] at HT2
        have HF := Lib.hid (show n3 = b0 ^ (e0 / 2 ^ k) % PP by rw [HX.out, ← hn3, ← hn2, pow_bit1 h hm])
        clear hm h hn2 hn3
        go_wp2_with fail
        with_reducible refine HT.out.mono ?_
        rintro e w' ⟨rfl, rfl⟩
        go_wp2_with fail
        with_reducible refine HT2.out.mono ?_
        rintro e w' ⟨rfl, rfl⟩
        go_wp2_with fail
        go_roundw
        case rel => exact ⟨n3, k, rfl, rfl, l3, by omega, HF, by trivial⟩
        case measure => first | (simp [intOf]; done) | (simp [intOf]; omega)

end Go.Proofs.YtcnmoallgfdomaaDoor

/- What this text proves: plain facts on floating numbers: what is written of a number that the format has is that number. No condition. -/
import Derived.Test.YtpbdlmkcomnjbaaLevPure
namespace Go.Proofs.Ytpbdlmkcomnjbaa
open Ieee
set_option linter.unusedVariables false
set_option linter.unusedSimpArgs false

theorem cut_whole (neg : Bool) (n : Nat) : Toward.even.cut neg n 0 = n := by
  unfold Toward.cut
  simp [Nat.mod_one]
theorem cut_exact (neg : Bool) (q d : Nat) (hq : 0 < q) : Toward.even.cut neg (q * 2 ^ d) d = q := by
  have hp : 0 < 2 ^ d := Nat.two_pow_pos d
  have hlog : d ≤ (q * 2 ^ d).log2 := (Nat.le_log2 (Nat.mul_ne_zero (by omega) (by omega))).2 (by
    calc 2 ^ d = 1 * 2 ^ d := by rw [Nat.one_mul]
      _ ≤ q * 2 ^ d := Nat.mul_le_mul_right _ hq)
  have hmin : min d ((q * 2 ^ d).log2 + 2) = d := by omega
  unfold Toward.cut
  simp only [hmin, Nat.one_shiftLeft, Nat.mul_mod_left, Nat.mul_div_cancel _ hp, Nat.mul_zero, Nat.not_lt_zero, decide_false, Bool.false_or]
  have : (2 ^ d == 0) = false := by rw [beq_eq_false_iff_ne]; omega
  rw [this]
  simp
theorem pl_mg (r : Nat) : pl r * bin + mg r = r := by
  have hb : 0 < bin := by decide
  unfold pl mg
  by_cases h : r < bin
  · rw [if_pos h, Nat.div_eq_of_lt h]; simp
  · rw [if_neg h]
    have h1 : 1 ≤ r / bin := (Nat.one_le_div_iff hb).2 (by omega)
    have h2 := Nat.div_add_mod r bin
    obtain ⟨q, hq⟩ : ∃ q, r / bin = q + 1 := ⟨r / bin - 1, by omega⟩
    rw [hq] at h2 ⊢
    rw [Nat.add_sub_cancel]
    rw [Nat.mul_add, Nat.mul_one, Nat.mul_comm] at h2
    omega
theorem mg_pos {r : Nat} (h : 0 < r) : 0 < mg r := by
  have hb : 0 < bin := by decide
  unfold mg
  split <;> omega
theorem log2_eq {n k : Nat} (h1 : 2 ^ k ≤ n) (h2 : n < 2 ^ (k + 1)) : n.log2 = k := by
  have hn : n ≠ 0 := by have := Nat.two_pow_pos k; omega
  have a := (Nat.le_log2 hn).2 h1
  have b := (Nat.log2_lt hn).2 h2
  omega
theorem log2_mul_pow {n k : Nat} (h : n ≠ 0) : (n * 2 ^ k).log2 = n.log2 + k := by
  refine log2_eq ?_ ?_
  · rw [Nat.pow_add]; exact Nat.mul_le_mul_right _ (Nat.log2_self_le h)
  · rw [show n.log2 + k + 1 = (n.log2 + 1) + k by omega, Nat.pow_add]; exact Nat.mul_lt_mul_of_pos_right Nat.lt_log2_self (Nat.two_pow_pos k)
theorem mg_log {r : Nat} (h0 : 0 < r) : (pl r = 0 ∧ (mg r).log2 ≤ 52) ∨ (mg r).log2 = 52 := by
  by_cases h : r < bin
  · left
    have e : mg r = r := by unfold mg; rw [if_pos h]
    refine ⟨by unfold pl; rw [Nat.div_eq_of_lt h], ?_⟩
    rw [e]
    have := (Nat.log2_lt (by omega : r ≠ 0)).2 (show r < 2 ^ 52 from h)
    omega
  · right
    have e : mg r = bin + r % bin := by unfold mg; rw [if_neg h]
    have hm := Nat.mod_lt r (show 0 < bin by decide)
    rw [e]
    have hb : bin = 2 ^ 52 := by decide
    exact log2_eq (by omega) (by rw [Nat.pow_succ, ← hb]; omega)
theorem nearest_exact (neg : Bool) (m : Nat) (p : Int) (r : Nat) (h0 : 0 < r) (hr : r ≤ infR) (h : m * 2 ^ (p + 1074).toNat = val r * 2 ^ (-1074 - p).toNat) : double.nearest neg m p = double.word neg r := by
  have hmg := mg_pos h0
  have hv : val r = mg r * 2 ^ pl r := rfl
  have hm0 : m ≠ 0 := by
    intro e
    subst e
    rw [Nat.zero_mul, hv] at h
    have := Nat.mul_pos (Nat.mul_pos hmg (Nat.two_pow_pos (pl r))) (Nat.two_pow_pos (-1074 - p).toNat)
    omega
  have hlog : (m.log2 : Int) + p + 1074 = (mg r).log2 + pl r := by
    have e := congrArg Nat.log2 h
    rw [hv, Nat.mul_assoc, ← Nat.pow_add, log2_mul_pow hm0, log2_mul_pow (by omega)] at e
    omega
  have hlast : max (p + (m.log2 : Int) - 52) (-1074) = -1074 + (pl r : Int) := by
    rcases mg_log h0 with ⟨h1, h2⟩ | h1
    · omega
    · omega
  unfold Format.nearest
  rw [if_neg hm0]
  simp only [dbl_least, dbl_bin, dbl_inf]
  rw [show ((double.fractionBits : Nat) : Int) = 52 from rfl, hlast]
  rw [show (-1074 + (pl r : Int) - -1074).toNat = pl r by omega]
  have hcut : Toward.even.cut neg (m <<< (p - (-1074 + (pl r : Int))).toNat) (-1074 + (pl r : Int) - p).toNat = mg r := by
    rcases Int.le_total (-1074 + (pl r : Int)) p with hp | hp
    · rw [show (-1074 + (pl r : Int) - p).toNat = 0 by omega, cut_whole, Nat.shiftLeft_eq]
      rw [show (-1074 - p).toNat = 0 by omega, Nat.pow_zero, Nat.mul_one, hv, show (p + 1074).toNat = (p - (-1074 + (pl r : Int))).toNat + pl r by omega, Nat.pow_add, ← Nat.mul_assoc] at h
      exact Nat.eq_of_mul_eq_mul_right (Nat.two_pow_pos (pl r)) h
    · rw [show (p - (-1074 + (pl r : Int))).toNat = 0 by omega, Nat.shiftLeft_eq, Nat.pow_zero, Nat.mul_one]
      have e : m = mg r * 2 ^ (-1074 + (pl r : Int) - p).toNat := by
        rcases Int.le_total (-1074) p with hq | hq
        · rw [show (-1074 - p).toNat = 0 by omega, Nat.pow_zero, Nat.mul_one, hv, show pl r = (-1074 + (pl r : Int) - p).toNat + (p + 1074).toNat by omega, Nat.pow_add, ← Nat.mul_assoc] at h
          have h3 := Nat.eq_of_mul_eq_mul_right (Nat.two_pow_pos (p + 1074).toNat) h
          rw [h3]
          all_goals (congr 2)
          all_goals omega
        · rw [show (p + 1074).toNat = 0 by omega, Nat.pow_zero, Nat.mul_one, hv, Nat.mul_assoc, ← Nat.pow_add] at h
          rw [h]
          all_goals (congr 2)
          all_goals omega
      rw [e]
      exact cut_exact neg (mg r) _ hmg
  rw [hcut, pl_mg, Nat.min_eq_left hr]
end Go.Proofs.Ytpbdlmkcomnjbaa

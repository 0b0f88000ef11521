/- What this text proves: plain facts on powers modulo a number. No program in sight. -/
import Derived.Test.YtcnmoallgfdomaaDoorDivMath
namespace Go.Proofs.YtcnmoallgfdomaaDoor
set_option linter.unusedVariables false
set_option linter.unusedSimpArgs false

def PP : Nat := 2305843009213693951
def QQ : Nat := 2305843009213693950
theorem PP_int : ((PP : Nat) : Int) = 2305843009213693951 := rfl
theorem QQ_int : ((QQ : Nat) : Int) = 2305843009213693950 := rfl
theorem PP_bd : 1152921504606846976 ≤ PP ∧ PP < 2305843009213693952 ∧ 1 < PP := by unfold PP; omega
theorem QQ_bd : 1152921504606846976 ≤ QQ ∧ QQ < 2305843009213693952 ∧ 1 < QQ := by unfold QQ; omega

theorem pow_even {m n b e r : Nat} (h : n * b ^ e % m = r) (he : e % 2 = 0) : n * (b * b % m) ^ (e / 2) % m = r := by
  rw [← h, Nat.mul_mod, ← Nat.pow_mod, ← Nat.mul_mod, Nat.mul_pow, ← Nat.pow_add, show e / 2 + e / 2 = e from by omega]
theorem pow_odd {m n b e r : Nat} (h : n * b ^ e % m = r) (he : e % 2 = 1) : (n * b % m) * (b * b % m) ^ (e / 2) % m = r := by
  rw [← h, Nat.mul_mod, Nat.mod_mod, ← Nat.pow_mod, ← Nat.mul_mod, Nat.mul_pow, ← Nat.pow_add, Nat.mul_assoc, ← Nat.pow_succ', show (e / 2 + e / 2).succ = e from by omega]
/-- One bit more of the exponent, from the left. -/
theorem pow_bit0 {m b x n : Nat} (h : n = b ^ (x / 2) % m) (hx : x % 2 = 0) : n * n % m = b ^ x % m := by
  rw [h, ← Nat.mul_mod, ← Nat.pow_add, show x / 2 + x / 2 = x from by omega]
theorem pow_bit1 {m b x n : Nat} (h : n = b ^ (x / 2) % m) (hx : x % 2 = 1) : (n * n % m) * b % m = b ^ x % m := by
  rw [h, ← Nat.mul_mod, ← Nat.pow_add, Nat.mod_mul_mod, ← Nat.pow_succ, show (x / 2 + x / 2).succ = x from by omega]
/-- One bit more of a factor. -/
theorem mul_bit0 {m a x n : Nat} (h : n = a * (x / 2) % m) (hx : x % 2 = 0) : 2 * n % m = a * x % m := by
  rw [h, Nat.mul_mod_mod, ← Nat.mul_assoc, Nat.mul_comm 2 a, Nat.mul_assoc, show 2 * (x / 2) = x from by omega]
theorem mul_bit1 {m a x n : Nat} (h : n = a * (x / 2) % m) (hx : x % 2 = 1) : (2 * n % m + a) % m = a * x % m := by
  rw [h, Nat.mul_mod_mod, Nat.mod_add_mod, ← Nat.mul_assoc, Nat.mul_comm 2 a, Nat.mul_assoc]
  have e : a * x = a * (2 * (x / 2)) + a := by
    rw [← Nat.mul_succ]
    congr 1
    omega
  rw [e]
/-- The bits of a number, one by one. -/
theorem shr_succ (x k : Nat) : x / 2 ^ (k + 1) = x / 2 ^ k / 2 := by rw [Nat.pow_succ, Nat.div_div_eq_div_mul]
end Go.Proofs.YtcnmoallgfdomaaDoor

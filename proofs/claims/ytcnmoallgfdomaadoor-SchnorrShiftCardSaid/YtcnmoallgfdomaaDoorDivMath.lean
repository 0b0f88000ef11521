/- What this text proves: plain facts on numbers for the division of two words by one (the library's bits.Div64): each digit's guess is mended to the right one. No program in sight. -/
import Derived.Laws.BitsLemmas
import Derived.Laws.Bits64
import Derived.Laws.Bits64b
import Derived.IntWalk
import Derived.Lib.Mul64
import Derived.Shelf.Small.Bits
namespace Go.Proofs.YtcnmoallgfdomaaDoor
open Go.RowKit
set_option linter.unusedVariables false
set_option linter.unusedSimpArgs false

/-- One digit: the guess q with its rest r, at the numbers u v (over) by y1 y0. -/
structure Guess (Y y1 y0 u v q r : Nat) : Prop where
  sum : q * y1 + r = u
  low : r < 4294967296
  up : u * 4294967296 + v < (q + 1) * Y
  few : q ≤ 4294967297
theorem q_mul (q y1 y0 : Nat) : q * (y1 * 4294967296 + y0) = q * y1 * 4294967296 + q * y0 := by rw [Nat.mul_add, Nat.mul_assoc]
theorem Guess.start {Y y1 y0 u v : Nat} (hY : Y = y1 * 4294967296 + y0) (h1 : 2147483648 ≤ y1) (h1' : y1 < 4294967296) (h0 : y0 < 4294967296) (hu : u < Y) (hv : v < 4294967296) : Guess Y y1 y0 u v (u / y1) (u - u / y1 * y1) := by
  have e := Nat.div_add_mod u y1
  have l := Nat.mod_lt u (show 0 < y1 by omega)
  have c : y1 * (u / y1) = u / y1 * y1 := Nat.mul_comm _ _
  refine ⟨by omega, by omega, ?_, ?_⟩
  · rw [Nat.succ_mul, hY, q_mul]
    omega
  · have : u / y1 < 4294967298 := by
      rw [Nat.div_lt_iff_lt_mul (by omega)]
      omega
    omega
theorem Guess.next {Y y1 y0 u v q r : Nat} (hY : Y = y1 * 4294967296 + y0) (h1 : 2147483648 ≤ y1) (hu : u < Y) (hv : v < 4294967296) (g : Guess Y y1 y0 u v q r) (hc : 4294967296 ≤ q ∨ 4294967296 * r + v < q * y0) :
    1 ≤ q ∧ (q - 1) * y1 + (r + y1) = u ∧ u * 4294967296 + v < (q - 1 + 1) * Y ∧ q - 1 ≤ 4294967296 := by
  obtain ⟨s, l, up, few⟩ := g
  have hq : 1 ≤ q := by
    rcases Nat.eq_zero_or_pos q with h | h
    · subst h; rw [Nat.zero_mul] at hc; omega
    · exact h
  obtain ⟨k, rfl⟩ : ∃ k, q = k + 1 := ⟨q - 1, by omega⟩
  refine ⟨hq, ?_, ?_, by omega⟩
  · rw [Nat.succ_mul] at s
    rw [Nat.add_sub_cancel]
    omega
  · rw [Nat.add_sub_cancel]
    rcases hc with hc | hc
    · have := Nat.mul_le_mul_right Y hc
      omega
    · have e := q_mul (k + 1) y1 y0
      rw [← hY] at e
      omega
/-- Where the test says no. -/
theorem Guess.done {Y y1 y0 u v q r : Nat} (hY : Y = y1 * 4294967296 + y0) (g : Guess Y y1 y0 u v q r) (hc : q * y0 ≤ 4294967296 * r + v) : q * Y ≤ u * 4294967296 + v ∧ u * 4294967296 + v < (q + 1) * Y := by
  refine ⟨?_, g.up⟩
  have s := g.sum
  rw [hY, q_mul]
  omega
/-- Where the rest has grown too great. -/
theorem guess_broke {Y y1 y0 u v q r : Nat} (hY : Y = y1 * 4294967296 + y0) (h0 : y0 < 4294967296) (s : q * y1 + r = u) (hr : 4294967296 ≤ r) (hq : q ≤ 4294967296) : q * Y ≤ u * 4294967296 + v := by
  have := Nat.mul_le_mul_right y0 hq
  rw [hY, q_mul]
  omega
/-- What is left of a digit. -/
theorem left_of {Y A q : Nat} (h1 : q * Y ≤ A) (h2 : A < (q + 1) * Y) : ∃ R, A = q * Y + R ∧ R < Y := ⟨A - q * Y, by omega, by rw [Nat.succ_mul] at h2; omega⟩
theorem digit_lt {Y A q u v : Nat} (h1 : q * Y ≤ A) (hA : A = u * 4294967296 + v) (hu : u < Y) (hv : v < 4294967296) : q < 4294967296 := by
  rcases Nat.lt_or_ge q 4294967296 with h | h
  · exact h
  · have := Nat.mul_le_mul_right Y h
    omega
/-- The two digits and the rest. -/
theorem two_digits {n y u v1 v0 q q' R R' : Nat} (hN : 8 * n = (u * 4294967296 + v1) * 4294967296 + v0) (h1 : u * 4294967296 + v1 = q * (8 * y) + R) (h2 : R * 4294967296 + v0 = q' * (8 * y) + R') (hR : R' < 8 * y) (hy : 0 < y) :
    n / y = q * 4294967296 + q' ∧ n % y = R' / 8 := by
  have a1 : q * (8 * y) = 8 * (q * y) := by rw [Nat.mul_left_comm]
  have a2 : q' * (8 * y) = 8 * (q' * y) := by rw [Nat.mul_left_comm]
  rw [a1] at h1
  rw [a2] at h2
  have e : n = y * (q * 4294967296 + q') + R' / 8 := by
    rw [Nat.mul_add, ← Nat.mul_assoc, Nat.mul_comm y q, Nat.mul_comm y q']
    omega
  have l : R' / 8 < y := by omega
  rw [e]
  constructor
  · rw [Nat.mul_add_div hy, Nat.div_eq_of_lt l, Nat.add_zero]
  · rw [Nat.mul_add_mod, Nat.mod_eq_of_lt l]

theorem wrap_nat (a : Nat) (h : a < 18446744073709551616) : IntKind.u64.wrap (a : Int) = (a : Int) := by rw [IntKind.wrap_u64]; omega
theorem mask_nat (a : Nat) (h : a < 18446744073709551616) : bits .and .u64 (a : Int) 4294967295 = ((a % 4294967296 : Nat) : Int) := by
  have h := bits_and_u64_nat a 4294967295 h (by omega)
  have e : a &&& 4294967295 = a % 4294967296 := Nat.and_two_pow_sub_one_eq_mod a 32
  rw [e] at h
  exact h
theorem one_nat (a : Nat) (h : a < 18446744073709551616) : bits .and .u64 (a : Int) 1 = ((a % 2 : Nat) : Int) := by
  have h := bits_and_u64_nat a 1 h (by omega)
  have e : a &&& 1 = a % 2 := Nat.and_two_pow_sub_one_eq_mod a 1
  rw [e] at h
  exact h
theorem or_nat (a b : Nat) (ha : a < 2305843009213693952) (hb : b < 8) : bits .or .u64 ((a : Int) * 8) (b : Int) = ((a * 8 + b : Nat) : Int) := by
  have h := bits_or_u64_nat (a * 8) b (by omega) (by omega)
  have e : a * 8 ||| b = a * 8 + b := by
    have := Nat.two_pow_add_eq_or_of_lt (i := 3) (b := b) hb a
    rw [Nat.mul_comm] at this
    exact this.symm
  rw [e] at h
  rw [← h, Int.natCast_mul]
  rfl
/-- The rest of a digit, as the library counts it: round 2^64. -/
theorem rest_nat (u v q Y R : Nat) (h : u * 4294967296 + v = q * Y + R) (hR : R < 18446744073709551616) :
    IntKind.u64.wrap (IntKind.u64.wrap (IntKind.u64.wrap ((u : Int) * 4294967296) + (v : Int)) - IntKind.u64.wrap ((q : Int) * (Y : Int))) = (R : Int) := by
  have hi : ((u * 4294967296 + v : Nat) : Int) = ((q * Y + R : Nat) : Int) := by rw [h]
  rw [Int.natCast_add (q * Y) R, Int.natCast_mul q Y] at hi
  generalize (q : Int) * (Y : Int) = p at *
  rw [IntKind.wrap_u64 ((u : Int) * 4294967296), IntKind.wrap_u64 p, IntKind.wrap_u64, IntKind.wrap_u64]
  omega
theorem bitLen_61 (y : Nat) (h1 : 1152921504606846976 ≤ y) (h2 : y < 2305843009213693952) : Lib.bitLen y = 61 := by
  have h0 : ∀ f, Lib.bitLenAux f 0 = 0 := fun f => by cases f <;> simp [Lib.bitLenAux]
  have go : ∀ (k f x : Nat), k + 1 ≤ f → 2 ^ k ≤ x → x < 2 ^ (k + 1) → Lib.bitLenAux f x = k + 1 := by
    intro k
    induction k with
    | zero =>
      intro f x hf hx hx'
      obtain ⟨f, rfl⟩ : ∃ g, f = g + 1 := ⟨f - 1, by omega⟩
      obtain rfl : x = 1 := by simp at hx hx'; omega
      simp [Lib.bitLenAux, h0]
    | succ k ih =>
      intro f x hf hx hx'
      obtain ⟨f, rfl⟩ : ∃ g, f = g + 1 := ⟨f - 1, by omega⟩
      have hp : 0 < 2 ^ k := Nat.two_pow_pos k
      rw [Nat.pow_succ] at hx hx'
      have := ih f (x / 2) (by omega) (by omega) (by omega)
      simp only [Lib.bitLenAux]
      rw [if_neg (by omega), this]
      omega
  have e1 : (2 : Nat) ^ 60 = 1152921504606846976 := by rfl
  have e2 : (2 : Nat) ^ (60 + 1) = 2305843009213693952 := by rfl
  exact go 60 64 y (by omega) (by rw [e1]; exact h1) (by rw [e2]; exact h2)
end Go.Proofs.YtcnmoallgfdomaaDoor

/- What this text proves: the contracts of layer 1's Order, Bits, Of. The conditions are that bits are bits. -/
import Derived.Test.YtpbdlmkcomnjbaaLevA
import Derived.Test.YtpbdlmkcomnjbaaBase
namespace Go.Proofs.Ytpbdlmkcomnjbaa
open Go.RowKit
set_option linter.unusedVariables false
set_option linter.unusedSimpArgs false

def cmpI (x y : Int) : Int := if x < y then -1 else if y < x then 1 else 0
def cmpF (a b : Nat) : Int := if nanB a then (if nanB b then 0 else -1) else if nanB b then 1 else cmpI (key a) (key b)
theorem lt_nn {a b : Nat} (ha : nanB a = false) (hb : nanB b = false) : ltF a b = decide (key a < key b) := by simp [ltF, ha, hb]
theorem eq_nn {a b : Nat} (ha : nanB a = false) (hb : nanB b = false) : eqF a b = decide (key a = key b) := by simp [eqF, ha, hb]
theorem compare_any (a b : Nat) (ha : a < 18446744073709551616) (hb : b < 18446744073709551616) (w : World) : Calls Try.prog 29 #[.float .f64 a, .float .f64 b] w fun e w' => e = .returned (.int .i64 (cmpF a b)) ∧ w' = w := by
  have HA := Lib.hid (cisnan_any a ha)
  have HB := Lib.hid (cisnan_any b hb)
  have h1 := f_lss (t := 22) ha hb
  have h2 := f_gtr (t := 22) ha hb
  unfold cmpF
  cases na : nanB a with
  | true =>
    rw [na] at HA
    simp only [if_true]
    clear h1 h2 na
    cases nb : nanB b with
    | true =>
      rw [nb] at HB
      clear nb
      go_enter Try.func29, Try.ntmps29
      go_wp2_with fail
      with_reducible refine (HA.out w).mono ?_
      rintro e w1 ⟨rfl, rfl⟩
      go_wp2_with fail
      with_reducible refine (HB.out w1).mono ?_
      rintro e w2 ⟨rfl, rfl⟩
      go_wp2_with fail
      go_ret
      exact ⟨rfl, rfl⟩
    | false =>
      rw [nb] at HB
      clear nb
      go_enter Try.func29, Try.ntmps29
      go_wp2_with fail
      with_reducible refine (HA.out w).mono ?_
      rintro e w1 ⟨rfl, rfl⟩
      go_wp2_with fail
      with_reducible refine (HB.out w1).mono ?_
      rintro e w2 ⟨rfl, rfl⟩
      go_wp2_with fail
      go_ret
      exact ⟨rfl, rfl⟩
  | false =>
    cases nb : nanB b with
    | true =>
      rw [na] at HA
      rw [nb] at HB
      clear h1 h2 na nb
      go_enter Try.func29, Try.ntmps29
      go_wp2_with fail
      with_reducible refine (HA.out w).mono ?_
      rintro e w1 ⟨rfl, rfl⟩
      go_wp2_with fail
      with_reducible refine (HB.out w1).mono ?_
      rintro e w2 ⟨rfl, rfl⟩
      go_wp2_with fail
      go_ret
      exact ⟨rfl, rfl⟩
    | false =>
      rw [lt_nn na nb] at h1
      rw [lt_nn nb na] at h2
      rw [na] at HA
      rw [nb] at HB
      obtain ⟨x, hx⟩ : ∃ x, key a = x := ⟨_, rfl⟩
      obtain ⟨y, hy⟩ : ∃ y, key b = y := ⟨_, rfl⟩
      rw [hx, hy] at h1 h2 ⊢
      simp only [Bool.false_eq_true, if_false]
      clear na nb hx hy
      unfold cmpI
      by_cases hxy : x < y
      · rw [if_pos hxy]
        rw [decide_eq_true hxy] at h1
        clear h2 hxy
        go_enter Try.func29, Try.ntmps29
        go_wp2_with fail
        with_reducible refine (HA.out w).mono ?_
        rintro e w1 ⟨rfl, rfl⟩
        go_wp2_with fail
        with_reducible refine (HB.out w1).mono ?_
        rintro e w2 ⟨rfl, rfl⟩
        go_wp2_with fail
        go_ret
        exact ⟨rfl, rfl⟩
      · rw [if_neg hxy]
        rw [decide_eq_false hxy] at h1
        by_cases hyx : y < x
        · rw [if_pos hyx]
          rw [decide_eq_true hyx] at h2
          clear hxy hyx
          go_enter Try.func29, Try.ntmps29
          go_wp2_with fail
          with_reducible refine (HA.out w).mono ?_
          rintro e w1 ⟨rfl, rfl⟩
          go_wp2_with fail
          with_reducible refine (HB.out w1).mono ?_
          rintro e w2 ⟨rfl, rfl⟩
          go_wp2_with fail
          go_ret
          exact ⟨rfl, rfl⟩
        · rw [if_neg hyx]
          rw [decide_eq_false hyx] at h2
          clear hxy hyx
          go_enter Try.func29, Try.ntmps29
          go_wp2_with fail
          with_reducible refine (HA.out w).mono ?_
          rintro e w1 ⟨rfl, rfl⟩
          go_wp2_with fail
          with_reducible refine (HB.out w1).mono ?_
          rintro e w2 ⟨rfl, rfl⟩
          go_wp2_with fail
          go_ret
          exact ⟨rfl, rfl⟩

/-- One, with a number's sign. -/
def one1 (b : Nat) : Nat := if sg b then 13830554455654793216 else 4607182418800017408
theorem one1_lt (b : Nat) : one1 b < 18446744073709551616 := by unfold one1; split <;> decide
theorem bits_top {b : Nat} (hb : b < 18446744073709551616) : bits .and .u64 (b : Int) 9223372036854775808 = if sg b then 9223372036854775808 else 0 := by
  have e : bits .and .u64 (b : Int) 9223372036854775808 = IntKind.u64.wrap (((BitVec.ofInt 64 (b : Int)) &&& (BitVec.ofInt 64 9223372036854775808)).toNat : Int) := by rfl
  have e2 : (BitVec.ofInt 64 9223372036854775808).toNat = 2 ^ 63 := by decide
  have e3 : (BitVec.ofInt 64 (b : Int)).toNat = b := by simp; omega
  rw [e, BitVec.toNat_and, e2, e3]
  have e4 : Nat.testBit b 63 = sg b := by
    rw [Nat.testBit_eq_decide_div_mod_eq]
    have := sg_eq hb
    unfold top at this
    rw [← this]
    rw [show (2 : Nat) ^ 63 = 9223372036854775808 from rfl]
    cases h : (b / 9223372036854775808 % 2 == 1) with
    | true => rw [beq_iff_eq] at h; rw [decide_eq_true h]
    | false => rw [beq_eq_false_iff_ne] at h; rw [decide_eq_false h]
  have e5 : b &&& 2 ^ 63 = if sg b then 2 ^ 63 else 0 := by
    apply Nat.eq_of_testBit_eq
    intro i
    rw [Nat.testBit_and, Nat.testBit_two_pow]
    by_cases h : 63 = i
    · subst h
      rw [e4]
      cases sg b
      · simp
      · simp only [if_true]; decide
    · rw [decide_eq_false h, Bool.and_false]
      cases sg b
      · simp
      · simp only [if_true]; rw [Nat.testBit_two_pow, decide_eq_false h]
  rw [e5]
  cases sg b <;> decide
theorem copysign_any (b : Nat) (hb : b < 18446744073709551616) (w : World) : Calls Try.prog 30 #[.float .f64 4607182418800017408, .float .f64 b] w fun e w' => e = .returned (.float .f64 (one1 b)) ∧ w' = w := by
  have c1 : ∀ w, (callFunc 31 #[.float .f64 4607182418800017408]).run Try.prog w = .ok (.value (.int .u64 4607182418800017408)) w := call_bits 4607182418800017408
  have c2 := call_bits b
  have h0 : bits .andNot .u64 4607182418800017408 9223372036854775808 = 4607182418800017408 := by decide
  have h1 := bits_top hb
  have h2 : bits .or .u64 4607182418800017408 9223372036854775808 = 13830554455654793216 := by decide
  have h3 : bits .or .u64 4607182418800017408 0 = 4607182418800017408 := by decide
  unfold one1
  cases hs : sg b with
  | true =>
    have c3 : ∀ w, (callFunc 32 #[.int .u64 13830554455654793216]).run Try.prog w = .ok (.value (.float .f64 13830554455654793216)) w := call_frombits 13830554455654793216
    rw [hs, if_pos rfl] at h1
    clear hs
    go_enter Try.func30, Try.ntmps30
    go_wp2_with fail
    go_ret
    exact ⟨rfl, rfl⟩
  | false =>
    have c3 : ∀ w, (callFunc 32 #[.int .u64 4607182418800017408]).run Try.prog w = .ok (.value (.float .f64 4607182418800017408)) w := call_frombits 4607182418800017408
    rw [hs, if_neg (by decide)] at h1
    clear hs
    go_enter Try.func30, Try.ntmps30
    go_wp2_with fail
    go_ret
    exact ⟨rfl, rfl⟩
end Go.Proofs.Ytpbdlmkcomnjbaa

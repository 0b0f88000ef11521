/- What this text proves: the contracts of the functions of layer 1 that tell a NaN, compare, copy a sign, and give a number's bits. The conditions are that bits are bits. -/
import Derived.Test.YtpbdlmkcomnjbaaProg
import Derived.Test.YtpbdlmkcomnjbaaLevPure
import Derived.WalkKit
import Derived.Laws.Externs
namespace Go.Proofs.Ytpbdlmkcomnjbaa
open Go.RowKit
set_option linter.unusedVariables false
set_option linter.unusedSimpArgs false

abbrev fl (b : Nat) : Value := .float .f64 b
theorem call_bits (b : Nat) (w : World) : (callFunc 31 #[.float .f64 b]).run Try.prog w = .ok (.value (.int .u64 (b : Int))) w := by
  rw [run_callFunc_extern (e := Extern.MathFloatBits.float64bits) Try.func31 (by kernel_rfl) (by kernel_rfl) (by kernel_rfl) (by kernel_rfl)]
  rfl
theorem call_frombits (n : Nat) (w : World) : (callFunc 32 #[.int .u64 (n : Int)]).run Try.prog w = .ok (.value (.float .f64 n)) w := by
  rw [run_callFunc_extern (e := Extern.MathFloatBits.float64frombits) Try.func32 (by kernel_rfl) (by kernel_rfl) (by kernel_rfl) (by kernel_rfl)]
  rfl
theorem cmp_lt (x y : Int) : (some (compare x y) == some Ordering.lt) = decide (x < y) := by
  rw [cmp_int]
  by_cases h : x < y
  · rw [if_pos h, decide_eq_true h]; rfl
  · rw [if_neg h, decide_eq_false h]
    split <;> rfl
theorem cmp_gt (x y : Int) : (some (compare x y) == some Ordering.gt) = decide (y < x) := by
  rw [cmp_int]
  by_cases h : x < y
  · rw [if_pos h, decide_eq_false (by omega)]; rfl
  · rw [if_neg h]
    by_cases h2 : y < x
    · rw [if_pos h2, decide_eq_true h2]; rfl
    · rw [if_neg h2, decide_eq_false h2]; rfl
theorem cmp_eq (x y : Int) : (some (compare x y) == some Ordering.eq) = decide (x = y) := by
  rw [cmp_int]
  by_cases h : x < y
  · rw [if_pos h, decide_eq_false (by omega)]; rfl
  · rw [if_neg h]
    by_cases h2 : y < x
    · rw [if_pos h2, decide_eq_false (by omega)]; rfl
    · rw [if_neg h2, decide_eq_true (by omega)]; rfl
section
variable {t : TypeId} {a b : Nat} (ha : a < 18446744073709551616) (hb : b < 18446744073709551616)
include ha hb
theorem f_lss : binOp .lss t (fl a) (fl b) = pure (.bool (ltF a b)) := by
  have h := order_key ha hb
  have e : binOp .lss t (fl a) (fl b) = Op.floatCmp .lss .f64 a b := rfl
  rw [e]
  show (pure (.bool (Ieee.double.order a b == some .lt)) : Sem Value) = _
  rw [h]
  unfold ltF
  cases nanB a || nanB b
  · simp only [Bool.false_eq_true, if_false, cmp_lt, Bool.not_false, Bool.true_and]
  · rfl
theorem f_gtr : binOp .gtr t (fl a) (fl b) = pure (.bool (ltF b a)) := by
  have h := order_key ha hb
  have e : binOp .gtr t (fl a) (fl b) = Op.floatCmp .gtr .f64 a b := rfl
  rw [e]
  show (pure (.bool (Ieee.double.order a b == some .gt)) : Sem Value) = _
  rw [h]
  unfold ltF
  rw [Bool.or_comm (nanB b)]
  cases nanB a || nanB b
  · simp only [Bool.false_eq_true, if_false, cmp_gt, Bool.not_false, Bool.true_and]
  · rfl
theorem f_leq : binOp .leq t (fl a) (fl b) = pure (.bool (leF a b)) := by
  have h := order_key ha hb
  have e : binOp .leq t (fl a) (fl b) = Op.floatCmp .leq .f64 a b := rfl
  rw [e]
  show (pure (.bool (Ieee.double.order a b == some .lt || Ieee.double.order a b == some .eq)) : Sem Value) = _
  rw [h]
  unfold leF
  cases nanB a || nanB b
  · simp only [Bool.false_eq_true, if_false, cmp_lt, cmp_eq, Bool.not_false, Bool.true_and]
    congr 2
    by_cases h1 : key a < key b
    · rw [decide_eq_true h1, decide_eq_true (by omega : key a ≤ key b)]; rfl
    · by_cases h2 : key a = key b
      · rw [decide_eq_false h1, decide_eq_true h2, decide_eq_true (by omega : key a ≤ key b)]; rfl
      · rw [decide_eq_false h1, decide_eq_false h2, decide_eq_false (by omega : ¬ key a ≤ key b)]; rfl
  · rfl
theorem f_geq : binOp .geq t (fl a) (fl b) = pure (.bool (leF b a)) := by
  have h := order_key ha hb
  have e : binOp .geq t (fl a) (fl b) = Op.floatCmp .geq .f64 a b := rfl
  rw [e]
  show (pure (.bool (Ieee.double.order a b == some .gt || Ieee.double.order a b == some .eq)) : Sem Value) = _
  rw [h]
  unfold leF
  rw [Bool.or_comm (nanB b)]
  cases nanB a || nanB b
  · simp only [Bool.false_eq_true, if_false, cmp_gt, cmp_eq, Bool.not_false, Bool.true_and]
    congr 2
    by_cases h1 : key b < key a
    · rw [decide_eq_true h1, decide_eq_true (by omega : key b ≤ key a)]; rfl
    · by_cases h2 : key a = key b
      · rw [decide_eq_false h1, decide_eq_true h2, decide_eq_true (by omega : key b ≤ key a)]; rfl
      · rw [decide_eq_false h1, decide_eq_false h2, decide_eq_false (by omega : ¬ key b ≤ key a)]; rfl
  · rfl
theorem f_eql : binOp .eql t (fl a) (fl b) = pure (.bool (eqF a b)) := by
  have h := order_key ha hb
  have e : binOp .eql t (fl a) (fl b) = Op.floatCmp .eql .f64 a b := rfl
  rw [e]
  show (pure (.bool (Ieee.double.order a b == some .eq)) : Sem Value) = _
  rw [h]
  unfold eqF
  cases nanB a || nanB b
  · simp only [Bool.false_eq_true, if_false, cmp_eq, Bool.not_false, Bool.true_and]
  · rfl
theorem f_neq : binOp .neq t (fl a) (fl b) = pure (.bool (!eqF a b)) := by
  have h := order_key ha hb
  have e : binOp .neq t (fl a) (fl b) = Op.floatCmp .neq .f64 a b := rfl
  rw [e]
  show (pure (.bool (Ieee.double.order a b != some .eq)) : Sem Value) = _
  rw [h]
  unfold eqF
  cases nanB a || nanB b
  · simp only [Bool.false_eq_true, if_false, bne, cmp_eq, Bool.not_false, Bool.true_and]
  · rfl
end
theorem eq_self (a : Nat) : (!eqF a a) = nanB a := by
  unfold eqF
  cases nanB a <;> simp
theorem isnan_any (b : Nat) (hb : b < 18446744073709551616) (w : World) : Calls Try.prog 28 #[.float .f64 b] w fun e w' => e = .returned (.bool (nanB b)) ∧ w' = w := by
  have hn := f_neq (t := 22) hb hb
  rw [eq_self] at hn
  go_enter Try.func28, Try.ntmps28
  go_wp2_with fail
  go_ret
  exact ⟨rfl, rfl⟩
theorem cisnan_any (b : Nat) (hb : b < 18446744073709551616) (w : World) : Calls Try.prog 42 #[.float .f64 b] w fun e w' => e = .returned (.bool (nanB b)) ∧ w' = w := by
  have hn := f_neq (t := 22) hb hb
  rw [eq_self] at hn
  go_enter Try.func42, Try.ntmps42
  go_wp2_with fail
  go_ret
  exact ⟨rfl, rfl⟩
end Go.Proofs.Ytpbdlmkcomnjbaa

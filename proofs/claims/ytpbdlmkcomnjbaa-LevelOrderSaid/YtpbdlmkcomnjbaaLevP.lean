/- What this text proves: the contracts of the reference's against and Above. The conditions are that bits are bits. -/
import Derived.Test.YtpbdlmkcomnjbaaLevN
import Derived.Deep.Cut
namespace Go.Proofs.Ytpbdlmkcomnjbaa
open Go.RowKit
set_option linter.unusedVariables false
set_option linter.unusedSimpArgs false

set_option maxRecDepth 8000 in
theorem ag_12 (m k : Nat) (e : Int) (h1 : decide (12 ≤ e) = true) (hm : 0 < m) (w : World) : Calls Try.prog 36 #[.int .u64 (m : Int), .int .i64 e, .int .u64 (k : Int)] w fun e w' => e = .returned (.tuple #[.bool (true), .bool (false)]) ∧ w' = w := by
  go_enter Try.func36, Try.ntmps36
  go_wp2_with fail
  go_ret2
  exact ⟨rfl, rfl⟩
set_option maxRecDepth 8000 in
theorem ag_0 (m k j x : Nat) (e : Int) (he : e = (j : Int)) (h1 : decide (12 ≤ (j : Int)) = false) (hj : (j : Int) ≤ 11) (h2 : (m : Int) / 2 ^ (64 - j) = 0) (h3 : IntKind.u64.wrap ((m : Int) * 2 ^ j) = (x : Int)) (w : World) : Calls Try.prog 36 #[.int .u64 (m : Int), .int .i64 e, .int .u64 (k : Int)] w fun e w' => e = .returned (.tuple #[.bool (decide (k < x)), .bool (decide (x < k))]) ∧ w' = w := by
  subst he
  go_enter Try.func36, Try.ntmps36
  go_wp2_with fail
  go_ret2
  exact ⟨rfl, rfl⟩
set_option maxRecDepth 8000 in
theorem ag_less (m k : Nat) (e : Int) (h1 : decide (12 ≤ e) = false) (h2 : decide (0 ≤ e) = false) (h3 : decide (e < -63) = true) (hm : 0 < m) (w : World) : Calls Try.prog 36 #[.int .u64 (m : Int), .int .i64 e, .int .u64 (k : Int)] w fun e w' => e = .returned (.tuple #[.bool (decide (k = 0)), .bool (decide (0 < k))]) ∧ w' = w := by
  by_cases hk : k = 0
  · subst hk
    rw [show decide (0 = 0) = true from rfl, show decide (0 < 0) = false from rfl]
    show Calls Try.prog 36 #[.int .u64 (m : Int), .int .i64 e, .int .u64 0] w _
    go_enter Try.func36, Try.ntmps36
    go_wp2_with fail
    go_ret2
    exact ⟨rfl, rfl⟩
  · rw [decide_eq_false hk, decide_eq_true (by omega : 0 < k)]
    have hk2 : ((k : Int) == 0) = false := by rw [beq_eq_false_iff_ne]; omega
    have hk3 : 0 < k := by omega
    go_enter Try.func36, Try.ntmps36
    go_wp2_with fail
    go_ret2
    exact ⟨rfl, rfl⟩
set_option maxRecDepth 8000 in
theorem ag_mid (m k : Nat) (e : Int) (h1 : decide (12 ≤ e) = false) (h2 : decide (0 ≤ e) = false) (h3 : decide (e < -63) = false) (d D wh rs : Nat) (hneg : -e = (d : Int)) (hd : (d : Int) ≤ 63) (e1 : -63 ≤ e) (e2 : e ≤ -1) (hsh : IntKind.u64.wrap ((2 : Int) ^ d) = (D : Int)) (hD0 : ((D : Int) == 0) = false) (hD1 : (1 : Int) ≤ (D : Int)) (hwh : (m : Int) / 2 ^ d = (wh : Int)) (hrs : (m : Int) % (D : Int) = (rs : Int)) (hrs2 : (m : Int).tmod (D : Int) = (rs : Int)) (w : World) : Calls Try.prog 36 #[.int .u64 (m : Int), .int .i64 e, .int .u64 (k : Int)] w fun e w' => e = .returned (.tuple #[.bool (decide (k < wh) || (wh == k && decide (0 < rs))), .bool (decide (wh < k))]) ∧ w' = w := by
  have HSH := Lib.hid hsh
  by_cases c1 : k < wh
  · rw [decide_eq_true c1, Bool.true_or, decide_eq_false (by omega : ¬ wh < k)]
    have c3 : ¬ wh < k := by omega
    go_enter Try.func36, Try.ntmps36
    go_wp2_with fail
    go_ret2
    exact ⟨rfl, rfl⟩
  · rw [decide_eq_false c1, Bool.false_or]
    by_cases c2 : wh = k
    · rw [beq_iff_eq.2 c2, Bool.true_and, decide_eq_false (by omega : ¬ wh < k)]
      have c3 : ¬ wh < k := by omega
      go_enter Try.func36, Try.ntmps36
      go_wp2_with fail
      go_ret2
      exact ⟨rfl, rfl⟩
    · rw [beq_eq_false_iff_ne.2 c2, Bool.false_and, decide_eq_true (by omega : wh < k)]
      have c3 : wh < k := by omega
      go_enter Try.func36, Try.ntmps36
      go_wp2_with fail
      go_ret2
      exact ⟨rfl, rfl⟩
end Go.Proofs.Ytpbdlmkcomnjbaa

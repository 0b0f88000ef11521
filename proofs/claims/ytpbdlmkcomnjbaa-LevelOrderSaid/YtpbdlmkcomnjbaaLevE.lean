/- What this text proves: the contracts of the reference's Order, Bits, Of. The conditions are that bits are bits. -/
import Derived.Test.YtpbdlmkcomnjbaaLevD
namespace Go.Proofs.Ytpbdlmkcomnjbaa
open Go.RowKit
set_option linter.unusedVariables false
set_option linter.unusedSimpArgs false

theorem place_wf (b : Nat) (hb : b < 18446744073709551616) : -9223372036854775808 ≤ place b ∧ place b ≤ 9223372036854775807 := by
  unfold place
  have := rg_lt b
  unfold top at this
  split
  · omega
  · split <;> omega
theorem rorder_any (a b : Nat) (ha : a < 18446744073709551616) (hb : b < 18446744073709551616) (w : World) : Calls Try.prog 19 #[.float .f64 a, .float .f64 b] w fun e w' => e = .returned (.int .i64 (cmpI (place a) (place b))) ∧ w' = w := by
  have HA := Lib.hid (place_any a ha)
  have HB := Lib.hid (place_any b hb)
  obtain ⟨x, hx⟩ : ∃ x, place a = x := ⟨_, rfl⟩
  obtain ⟨y, hy⟩ : ∃ y, place b = y := ⟨_, rfl⟩
  rw [hx] at HA
  rw [hy] at HB
  rw [hx, hy]
  clear hx hy
  unfold cmpI
  by_cases h1 : x < y
  · rw [if_pos h1]
    go_enter Try.func19, Try.ntmps19
    go_wp2_with fail
    with_reducible refine (HA.out _).mono ?_
    rintro e w1 ⟨rfl, rfl⟩
    go_wp2_with fail
    with_reducible refine (HB.out _).mono ?_
    rintro e w1 ⟨rfl, rfl⟩
    go_wp2_with fail
    go_ret
    exact ⟨rfl, rfl⟩
  · rw [if_neg h1]
    have e1 : decide (x < y) = false := decide_eq_false h1
    by_cases h2 : y < x
    · rw [if_pos h2]
      go_enter Try.func19, Try.ntmps19
      go_wp2_with fail
      with_reducible refine (HA.out _).mono ?_
      rintro e w1 ⟨rfl, rfl⟩
      go_wp2_with fail
      with_reducible refine (HB.out _).mono ?_
      rintro e w1 ⟨rfl, rfl⟩
      go_wp2_with fail
      go_ret
      exact ⟨rfl, rfl⟩
    · rw [if_neg h2]
      have e2 : decide (y < x) = false := decide_eq_false h2
      go_enter Try.func19, Try.ntmps19
      go_wp2_with fail
      with_reducible refine (HA.out _).mono ?_
      rintro e w1 ⟨rfl, rfl⟩
      go_wp2_with fail
      with_reducible refine (HB.out _).mono ?_
      rintro e w1 ⟨rfl, rfl⟩
      go_wp2_with fail
      go_ret
      exact ⟨rfl, rfl⟩
theorem rbits_any (b : Nat) (hb : b < 18446744073709551616) (w : World) : Calls Try.prog 18 #[.float .f64 b] w fun e w' => e = .returned (.int .u64 (bitsF b : Nat)) ∧ w' = w := by
  have HB := Lib.hid (rnan_any b hb)
  have hc := call_bits b
  unfold bitsF
  cases nb : nanB b with
  | true =>
    rw [nb] at HB
    simp only [if_true]
    clear nb
    go_enter Try.func18, Try.ntmps18
    go_wp2_with fail
    with_reducible refine (HB.out _).mono ?_
    rintro e w1 ⟨rfl, rfl⟩
    go_wp2_with fail
    go_ret
    exact ⟨rfl, rfl⟩
  | false =>
    rw [nb] at HB
    simp only [Bool.false_eq_true, if_false]
    clear nb
    go_enter Try.func18, Try.ntmps18
    go_wp2_with fail
    with_reducible refine (HB.out _).mono ?_
    rintro e w1 ⟨rfl, rfl⟩
    go_wp2_with fail
    go_ret
    exact ⟨rfl, rfl⟩
theorem rof_any (b : Nat) (hb : b < 18446744073709551616) (w : World) : Calls Try.prog 17 #[.int .u64 (b : Int)] w fun e w' => e = .returned (.tuple #[.float .f64 (ofF b).1, .int .i64 (ofF b).2]) ∧ w' = w := by
  have HB := Lib.hid (rbits_any b hb)
  have hc := call_frombits b
  unfold ofF
  obtain ⟨y, hy⟩ : ∃ y, bitsF b = y := ⟨_, rfl⟩
  rw [hy] at HB ⊢
  by_cases h : y = b
  · subst h
    rw [if_pos rfl]
    have hh : (!((y : Int) == (y : Int))) = false := by simp
    clear hy
    go_enter Try.func17, Try.ntmps17
    go_wp2_with fail
    with_reducible refine (HB.out _).mono ?_
    rintro e w1 ⟨rfl, rfl⟩
    go_wp2_with fail
    go_ret2
    exact ⟨rfl, rfl⟩
  · rw [if_neg h]
    have hh : (!((y : Int) == (b : Int))) = true := by simp; omega
    have hh2 : ¬ (y : Int) = (b : Int) := by omega
    clear hy
    go_enter Try.func17, Try.ntmps17
    go_wp2_with fail
    with_reducible refine (HB.out _).mono ?_
    rintro e w1 ⟨rfl, rfl⟩
    go_wp2_with fail
    go_ret2
    exact ⟨rfl, rfl⟩
end Go.Proofs.Ytpbdlmkcomnjbaa

/- What this text proves: the contracts of layer 1's Order, Bits, Of, and of the reference's parts, Nan, place, Order, Bits, Of. The conditions are that bits are bits. -/
import Derived.Test.YtpbdlmkcomnjbaaLevB
namespace Go.Proofs.Ytpbdlmkcomnjbaa
open Go.RowKit
set_option linter.unusedVariables false
set_option linter.unusedSimpArgs false

/-- Where a number stands in the line. -/
def place (b : Nat) : Int := if nanB b then 9223372036854775807 else if sg b then -1 - (rg b : Int) else rg b
theorem nn_le {b : Nat} (h : nanB b = false) : rg b ≤ infR := by
  unfold nanB at h
  rw [decide_eq_false_iff_not] at h
  omega
theorem place_nn {b : Nat} (h : nanB b = false) : place b < 9223372036854775807 ∧ place b = if sg b then -1 - (rg b : Int) else rg b := by
  have h1 := nn_le h
  have h2 : infR = 9218868437227405312 := rfl
  unfold place
  rw [h]
  simp only [Bool.false_eq_true, if_false]
  refine ⟨?_, trivial⟩
  split <;> omega
theorem place_nan {b : Nat} (h : nanB b = true) : place b = 9223372036854775807 := by unfold place; rw [h]; rfl
theorem cmp_place {a b : Nat} (ha : nanB a = false) (hb : nanB b = false) (h : ¬ (key a = 0 ∧ key b = 0)) : cmpF a b = cmpI (place a) (place b) := by
  rw [(place_nn ha).2, (place_nn hb).2]
  unfold cmpF cmpI key at *
  rw [ha, hb]
  simp only [Bool.false_eq_true, if_false]
  cases sg a <;> cases sg b <;> simp only [Bool.false_eq_true, if_false, if_true] at h ⊢
  all_goals
    repeat' split
    all_goals first | rfl | (exfalso; omega)
theorem cmp_place0 {a b : Nat} (ha : nanB a = false) (hb : nanB b = false) (h1 : key a = 0) (h2 : key b = 0) : cmpF (one1 a) (one1 b) = cmpI (place a) (place b) := by
  rw [(place_nn ha).2, (place_nn hb).2]
  unfold key at h1 h2
  unfold one1
  cases sa : sg a <;> cases sb : sg b <;> simp only [sa, sb, Bool.false_eq_true, if_false, if_true] at h1 h2 ⊢
  all_goals
    have e1 : rg a = 0 := by omega
    have e2 : rg b = 0 := by omega
    rw [e1, e2]
    decide
theorem eq_zero {a : Nat} (h : nanB a = false) : eqF a 0 = decide (key a = 0) := by
  rw [eq_nn h (by decide)]
  rfl

theorem order_any (a b : Nat) (ha : a < 18446744073709551616) (hb : b < 18446744073709551616) (w : World) : Calls Try.prog 14 #[.float .f64 a, .float .f64 b] w fun e w' => e = .returned (.int .i64 (cmpI (place a) (place b))) ∧ w' = w := by
  have HA := Lib.hid (isnan_any a ha)
  have HB := Lib.hid (isnan_any b hb)
  have za := f_eql (t := 22) ha (b := 0) (by decide)
  have zb := f_eql (t := 22) hb (b := 0) (by decide)
  cases na : nanB a with
  | true =>
    rw [na] at HA
    cases nb : nanB b with
    | true =>
      rw [nb] at HB
      rw [place_nan na, place_nan nb, show cmpI 9223372036854775807 9223372036854775807 = 0 from by decide]
      clear na nb za zb
      go_enter Try.func14, Try.ntmps14
      go_wp2_with fail
      with_reducible refine (HA.out _).mono ?_
      rintro e w1 ⟨rfl, rfl⟩
      go_wp2_with fail
      with_reducible refine (HB.out _).mono ?_
      rintro e w2 ⟨rfl, rfl⟩
      go_wp2_with fail
      go_ret
      exact ⟨rfl, rfl⟩
    | false =>
      rw [nb] at HB
      rw [place_nan na, show cmpI 9223372036854775807 (place b) = 1 from by have := (place_nn nb).1; unfold cmpI; rw [if_neg (by omega), if_pos (by omega)]]
      clear na nb za zb
      go_enter Try.func14, Try.ntmps14
      go_wp2_with fail
      with_reducible refine (HA.out _).mono ?_
      rintro e w1 ⟨rfl, rfl⟩
      go_wp2_with fail
      with_reducible refine (HB.out _).mono ?_
      rintro e w2 ⟨rfl, rfl⟩
      go_wp2_with fail
      go_ret
      exact ⟨rfl, rfl⟩
  | false =>
    rw [na] at HA
    rw [eq_zero na] at za
    cases nb : nanB b with
    | true =>
      rw [nb] at HB
      rw [place_nan nb, show cmpI (place a) 9223372036854775807 = -1 from by have := (place_nn na).1; unfold cmpI; rw [if_pos (by omega)]]
      clear na nb za zb
      go_enter Try.func14, Try.ntmps14
      go_wp2_with fail
      with_reducible refine (HA.out _).mono ?_
      rintro e w1 ⟨rfl, rfl⟩
      go_wp2_with fail
      with_reducible refine (HB.out _).mono ?_
      rintro e w2 ⟨rfl, rfl⟩
      go_wp2_with fail
      go_ret
      exact ⟨rfl, rfl⟩
    | false =>
      rw [nb] at HB
      rw [eq_zero nb] at zb
      by_cases ka : key a = 0
      · rw [decide_eq_true ka] at za
        by_cases kb : key b = 0
        · rw [decide_eq_true kb] at zb
          have HC := Lib.hid (compare_any (one1 a) (one1 b) (one1_lt a) (one1_lt b))
          rw [cmp_place0 na nb ka kb] at HC
          have HSA := Lib.hid (copysign_any a ha)
          have HSB := Lib.hid (copysign_any b hb)
          clear na nb ka kb
          go_enter Try.func14, Try.ntmps14
          go_wp2_with fail
          with_reducible refine (HA.out _).mono ?_
          rintro e w1 ⟨rfl, rfl⟩
          go_wp2_with fail
          with_reducible refine (HB.out _).mono ?_
          rintro e w2 ⟨rfl, rfl⟩
          go_wp2_with fail
          with_reducible refine (HSA.out _).mono ?_
          rintro e w3 ⟨rfl, rfl⟩
          go_wp2_with fail
          with_reducible refine (HSB.out _).mono ?_
          rintro e w4 ⟨rfl, rfl⟩
          go_wp2_with fail
          with_reducible refine (HC.out _).mono ?_
          rintro e w5 ⟨rfl, rfl⟩
          go_wp2_with fail
          go_ret
          exact ⟨rfl, rfl⟩
        · rw [decide_eq_false kb] at zb
          have HC := Lib.hid (compare_any a b ha hb)
          rw [cmp_place na nb (fun h => kb h.2)] at HC
          clear na nb ka kb
          go_enter Try.func14, Try.ntmps14
          go_wp2_with fail
          with_reducible refine (HA.out _).mono ?_
          rintro e w1 ⟨rfl, rfl⟩
          go_wp2_with fail
          with_reducible refine (HB.out _).mono ?_
          rintro e w2 ⟨rfl, rfl⟩
          go_wp2_with fail
          with_reducible refine (HC.out _).mono ?_
          rintro e w3 ⟨rfl, rfl⟩
          go_wp2_with fail
          go_ret
          exact ⟨rfl, rfl⟩
      · rw [decide_eq_false ka] at za
        have HC := Lib.hid (compare_any a b ha hb)
        rw [cmp_place na nb (fun h => ka h.1)] at HC
        clear na nb ka zb
        go_enter Try.func14, Try.ntmps14
        go_wp2_with fail
        with_reducible refine (HA.out _).mono ?_
        rintro e w1 ⟨rfl, rfl⟩
        go_wp2_with fail
        with_reducible refine (HB.out _).mono ?_
        rintro e w2 ⟨rfl, rfl⟩
        go_wp2_with fail
        with_reducible refine (HC.out _).mono ?_
        rintro e w3 ⟨rfl, rfl⟩
        go_wp2_with fail
        go_ret
        exact ⟨rfl, rfl⟩

/-- A number's bits: every NaN's are one. -/
def bitsF (b : Nat) : Nat := if nanB b then 9221120237041090561 else b
theorem bitsF_lt {b : Nat} (h : b < 18446744073709551616) : bitsF b < 18446744073709551616 := by unfold bitsF; split <;> omega
def ofF (b : Nat) : Nat × Int := if bitsF b = b then (b, 0) else (0, 11)
theorem bits_any (b : Nat) (hb : b < 18446744073709551616) (w : World) : Calls Try.prog 15 #[.float .f64 b] w fun e w' => e = .returned (.int .u64 (bitsF b : Nat)) ∧ w' = w := by
  have HB := Lib.hid (isnan_any b hb)
  have hc := call_bits b
  unfold bitsF
  cases nb : nanB b with
  | true =>
    rw [nb] at HB
    simp only [if_true]
    clear nb
    go_enter Try.func15, Try.ntmps15
    go_wp2_with fail
    with_reducible refine (HB.out _).mono ?_
    rintro e w1 ⟨rfl, rfl⟩
    go_wp2_with fail
    go_ret
    exact ⟨rfl, rfl⟩
  | false =>
    rw [nb] at HB
    simp only [Bool.false_eq_true, if_false]
    clear nb
    go_enter Try.func15, Try.ntmps15
    go_wp2_with fail
    with_reducible refine (HB.out _).mono ?_
    rintro e w1 ⟨rfl, rfl⟩
    go_wp2_with fail
    go_ret
    exact ⟨rfl, rfl⟩
theorem of_any (b : Nat) (hb : b < 18446744073709551616) (w : World) : Calls Try.prog 16 #[.int .u64 (b : Int)] w fun e w' => e = .returned (.tuple #[.float .f64 (ofF b).1, .int .i64 (ofF b).2]) ∧ w' = w := by
  have HB := Lib.hid (bits_any b hb)
  have hc := call_frombits b
  unfold ofF
  obtain ⟨y, hy⟩ : ∃ y, bitsF b = y := ⟨_, rfl⟩
  rw [hy] at HB ⊢
  by_cases h : y = b
  · subst h
    rw [if_pos rfl]
    have hh : (!((y : Int) == (y : Int))) = false := by simp
    clear hy
    go_enter Try.func16, Try.ntmps16
    go_wp2_with fail
    with_reducible refine (HB.out _).mono ?_
    rintro e w1 ⟨rfl, rfl⟩
    go_wp2_with fail
    go_ret2
    exact ⟨rfl, rfl⟩
  · rw [if_neg h]
    have hh : (!((y : Int) == (b : Int))) = true := by simp; omega
    have hh2 : ¬ (y : Int) = (b : Int) := by omega
    clear hy
    go_enter Try.func16, Try.ntmps16
    go_wp2_with fail
    with_reducible refine (HB.out _).mono ?_
    rintro e w1 ⟨rfl, rfl⟩
    go_wp2_with fail
    go_ret2
    exact ⟨rfl, rfl⟩
end Go.Proofs.Ytpbdlmkcomnjbaa

/- What this text proves: the contracts of the reference's Right and Exceeds. The conditions are that bits are bits. -/
import Derived.Test.YtpbdlmkcomnjbaaLevJ
import Derived.Outline
namespace Go.Proofs.Ytpbdlmkcomnjbaa
open Go.RowKit
set_option linter.unusedVariables false
set_option linter.unusedSimpArgs false

theorem right_level (b : Nat) (hb : b < 18446744073709551616) : (!nanB b && (decide (0 < cmpI (place b) (place 0)) && decide (cmpI (place b) (place 4607182418800017408) ≤ 0))) = decide (0 < b ∧ b ≤ one64) := by
  have o1 : one64 = 4607182418800017408 := rfl
  have p0 : place 0 = 0 := by decide
  have p1 : place 4607182418800017408 = 4607182418800017408 := by decide
  rw [p0, p1]
  cases nb : nanB b with
  | true =>
    have hn : ¬ (0 < b ∧ b ≤ one64) := by
      rintro ⟨h1, h2⟩
      rw [nan_pos (by omega)] at nb
      cases nb
    rw [decide_eq_false hn]
    rfl
  | false =>
    have h := place_nn nb
    rw [h.2]
    by_cases hs : b < 9223372036854775808
    · rw [sg_pos hs, rg_pos hs]
      simp only [Bool.false_eq_true, if_false, Bool.not_false, Bool.true_and]
      by_cases h1 : 0 < b
      · have e1 : cmpI (b : Int) 0 = 1 := by unfold cmpI; rw [if_neg (by omega), if_pos (by omega)]
        rw [e1]
        by_cases h2 : b ≤ one64
        · rw [decide_eq_true (⟨h1, h2⟩ : 0 < b ∧ b ≤ one64)]
          have : cmpI (b : Int) 4607182418800017408 ≤ 0 := by unfold cmpI; split <;> (try split) <;> omega
          rw [decide_eq_true this]
          rfl
        · rw [decide_eq_false (fun x : 0 < b ∧ b ≤ one64 => h2 x.2)]
          have : cmpI (b : Int) 4607182418800017408 = 1 := by unfold cmpI; rw [if_neg (by omega), if_pos (by omega)]
          rw [this]
          rfl
      · have hb0 : b = 0 := by omega
        subst hb0
        decide
    · have hsg : sg b = true := by unfold sg top; exact decide_eq_true (by omega)
      rw [hsg, decide_eq_false (fun x : 0 < b ∧ b ≤ one64 => by omega)]
      have e1 : cmpI (-1 - (rg b : Int)) 0 = -1 := by unfold cmpI; rw [if_pos (by omega)]
      simp only [if_true]
      rw [e1]
      rfl
theorem right_any (b : Nat) (hb : b < 18446744073709551616) (w : World) : Calls Try.prog 26 #[.float .f64 b] w fun e w' => e = .returned (.bool (decide (0 < b ∧ b ≤ one64))) ∧ w' = w := by
  have HN := Lib.hid (rnan_any b hb)
  have H0 := Lib.hid (rorder_any b 0 hb (by decide))
  have H1 := Lib.hid (rorder_any b 4607182418800017408 hb (by decide))
  rw [← right_level b hb]
  obtain ⟨n, hn⟩ : ∃ n, nanB b = n := ⟨_, rfl⟩
  obtain ⟨x, hx⟩ : ∃ x, cmpI (place b) (place 0) = x := ⟨_, rfl⟩
  obtain ⟨y, hy⟩ : ∃ y, cmpI (place b) (place 4607182418800017408) = y := ⟨_, rfl⟩
  rw [hn] at HN
  rw [hx] at H0
  rw [hy] at H1
  rw [hn, hx, hy]
  clear hn hx hy
  cases n with
  | true =>
    go_enter Try.func26, Try.ntmps26
    go_wp2_with fail
    with_reducible refine (HN.out _).mono ?_
    rintro e w1 ⟨rfl, rfl⟩
    go_wp2_with fail
    go_ret
    exact ⟨rfl, rfl⟩
  | false =>
    by_cases h : 0 < x
    · have hd : decide (0 < x) = true := decide_eq_true h
      rw [hd]
      go_enter Try.func26, Try.ntmps26
      go_wp2_with fail
      with_reducible refine (HN.out _).mono ?_
      rintro e w1 ⟨rfl, rfl⟩
      go_wp2_with fail
      with_reducible refine (H0.out _).mono ?_
      rintro e w1 ⟨rfl, rfl⟩
      go_wp2_with fail
      with_reducible refine (H1.out _).mono ?_
      rintro e w1 ⟨rfl, rfl⟩
      go_wp2_with fail
      go_ret
      exact ⟨rfl, rfl⟩
    · have hd : decide (0 < x) = false := decide_eq_false h
      rw [hd]
      go_enter Try.func26, Try.ntmps26
      go_wp2_with fail
      with_reducible refine (HN.out _).mono ?_
      rintro e w1 ⟨rfl, rfl⟩
      go_wp2_with fail
      with_reducible refine (H0.out _).mono ?_
      rintro e w1 ⟨rfl, rfl⟩
      go_wp2_with fail
      go_ret
      exact ⟨rfl, rfl⟩
end Go.Proofs.Ytpbdlmkcomnjbaa

/- What this text proves: plain facts on floating numbers: what is the greatest whole number not above one. No condition. -/
import Derived.Test.YtpbdlmkcomnjbaaLevQ
namespace Go.Proofs.Ytpbdlmkcomnjbaa
open Ieee Go.RowKit
set_option linter.unusedVariables false
set_option linter.unusedSimpArgs false

theorem cut_form (way : Toward) (neg : Bool) (n d : Nat) : ∃ more : Bool, way.cut neg n d = n / 2 ^ d + more.toNat ∧ (way = .zero → more = false) ∧ (way = .down → more = (neg && decide (n % 2 ^ d ≠ 0))) := by
  have key : n / (1 <<< min d (n.log2 + 2)) = n / 2 ^ d ∧ n % (1 <<< min d (n.log2 + 2)) = n % 2 ^ d := by
    rw [Nat.one_shiftLeft]
    rcases Nat.le_total d (n.log2 + 2) with h | h
    · rw [Nat.min_eq_left h]; exact ⟨rfl, rfl⟩
    · rw [Nat.min_eq_right h]
      have h1 : n < 2 ^ (n.log2 + 2) := by
        rcases Nat.eq_zero_or_pos n with h0 | h0
        · subst h0; decide
        · exact Nat.lt_trans Nat.lt_log2_self (Nat.pow_lt_pow_right (by decide) (by omega))
      have h2 : n < 2 ^ d := Nat.lt_of_lt_of_le h1 (Nat.pow_le_pow_right (by decide) h)
      rw [Nat.div_eq_of_lt h1, Nat.div_eq_of_lt h2, Nat.mod_eq_of_lt h1, Nat.mod_eq_of_lt h2]
      exact ⟨rfl, rfl⟩
  unfold Toward.cut
  simp only [key.1, key.2]
  cases way with
  | even =>
    refine ⟨_, rfl, ?_, ?_⟩
    · intro h; cases h
    · intro h; cases h
  | up =>
    refine ⟨_, rfl, ?_, ?_⟩
    · intro h; cases h
    · intro h; cases h
  | zero =>
    refine ⟨false, rfl, ?_, ?_⟩
    · intro h; rfl
    · intro h; cases h
  | down =>
    refine ⟨_, rfl, ?_, ?_⟩
    · intro h; cases h
    intro _
    show (neg && n % 2 ^ d != 0) = _
    congr 1
    by_cases h : n % 2 ^ d = 0
    · rw [h]; rfl
    · rw [decide_eq_true (show n % 2 ^ d ≠ 0 from h)]; exact bne_iff_ne.2 h
/-- The word of a sign and a whole magnitude. -/
def wholeR (m : Nat) : Nat := if m = 0 then 0 else rnd m tho
def wordF (s : Bool) (r : Nat) : Nat := if s then top + r else r
theorem wordF_lt {s : Bool} {r : Nat} (h : r < top) : wordF s r < 18446744073709551616 ∧ rg (wordF s r) = r ∧ sg (wordF s r) = s := by
  unfold wordF rg sg top at *
  cases s
  · simp only [Bool.false_eq_true, if_false]
    exact ⟨by omega, by omega, decide_eq_false (by omega)⟩
  · simp only [if_true]
    exact ⟨by omega, by omega, decide_eq_true (by omega)⟩
theorem word_eq (s : Bool) (r : Nat) : double.word s r = wordF s r := by
  unfold Format.word wordF
  rw [dbl_sw]
theorem sval_word {s : Bool} {r : Nat} (h : r < top) : sval (wordF s r) = if s then -(val r : Int) else val r := by
  unfold sval
  rw [(wordF_lt h).2.1, (wordF_lt h).2.2]
/-- A whole number's word: what it is worth, and that it is read back. -/
theorem whole_word (s : Bool) (m : Nat) (hm : m.log2 ≤ 52) : ∃ r, r < infR ∧ double.nearest s m 0 = wordF s r ∧ val r = m * big ∧ (double.read (wordF s r)).toInt .zero = some (if s then -(m : Int) else m) := by
  have ht : tho = 1074 := rfl
  have hbn : bin = 4503599627370496 := rfl
  have hi : infR = 2047 * bin := by decide
  by_cases h0 : m = 0
  · subst h0
    refine ⟨0, by decide, ?_, by rw [val_zero, Nat.zero_mul], ?_⟩
    · unfold Format.nearest; rw [if_pos rfl]; exact word_eq s 0
    · cases s <;> decide
  · obtain ⟨f1, f2, f3, f4, f5, f6⟩ := rnd_facts (s := tho) (by omega : 0 < m) hm (by omega)
    have hlt : rnd m tho < infR := by rw [hi]; exact Nat.lt_of_lt_of_le f6 (Nat.mul_le_mul_right _ (by omega))
    have hit : infR < top := by decide
    refine ⟨rnd m tho, hlt, ?_, f4, ?_⟩
    · rw [nearest_exact s m 0 (rnd m tho) (by omega) (by omega) (by rw [f4, show ((-1074 : Int) - 0).toNat = 0 from rfl, Nat.pow_zero, Nat.mul_one, show ((0 : Int) + 1074).toNat = tho from rfl])]
      exact word_eq s _
    · obtain ⟨w1, w2, w3⟩ := wordF_lt (s := s) (by omega : rnd m tho < top)
      rw [read_num w1 (by rw [w2]; exact hlt), w2, w3]
      unfold Datum.toInt Datum.integral
      simp only
      rw [f2, f3, show (-1074 + ((m.log2 + tho - 52 : Nat) : Int)).toNat = 0 by omega, Nat.shiftLeft_eq, Nat.pow_zero, Nat.mul_one, show (-(-1074 + ((m.log2 + tho - 52 : Nat) : Int))).toNat = 52 - m.log2 by omega]
      obtain ⟨more, c1, c2, c3⟩ := cut_form .zero s (m * 2 ^ (52 - m.log2)) (52 - m.log2)
      rw [c1, c2 rfl, Nat.mul_div_cancel _ (Nat.two_pow_pos _)]
      unfold signed
      simp
theorem mg_lt (r : Nat) : mg r < 9007199254740992 := by
  have hbn : bin = 4503599627370496 := rfl
  unfold mg
  have := Nat.mod_lt r (by decide : 0 < bin)
  split <;> omega
theorem big_pos : 0 < big := Nat.two_pow_pos _
/-- What is said of a finite number's floor. -/
theorem floor_word (b : Nat) (hb : b < 18446744073709551616) (h : rg b < infR) : ∃ (r : Nat) (k : Int), r < infR ∧ double.write ((double.read b).integral .down) = wordF (sg b) r ∧ (double.read (wordF (sg b) r)).toInt .zero = some k ∧ sval (wordF (sg b) r) = k * big ∧ k * big ≤ sval b ∧ sval b < (k + 1) * big := by
  have ht : tho = 1074 := rfl
  have hit : infR < top := by decide
  have hbp := big_pos
  rw [read_num hb h]
  have hsv : sval b = if sg b then -(val (rg b) : Int) else val (rg b) := rfl
  rw [hsv]
  obtain ⟨s, hs⟩ : ∃ s, sg b = s := ⟨_, rfl⟩
  obtain ⟨r0, hr0⟩ : ∃ r, rg b = r := ⟨_, rfl⟩
  rw [hs, hr0]
  rw [hr0] at h
  have hv : val r0 = mg r0 * 2 ^ pl r0 := rfl
  rcases Nat.lt_or_ge (pl r0) 1074 with hp | hp
  · -- figures behind the point
    obtain ⟨d, hd⟩ : ∃ d, 1074 - pl r0 = d := ⟨_, rfl⟩
    have hbig : big = 2 ^ d * 2 ^ pl r0 := by unfold big; rw [pow_two_add, show d + pl r0 = tho by omega]
    have hint : (Datum.number s (mg r0) (-1074 + (pl r0 : Int))).integral .down = .number s (Toward.down.cut s (mg r0) d) 0 := by
      unfold Datum.integral
      simp only
      rw [show (-1074 + (pl r0 : Int)).toNat = 0 by omega, Nat.shiftLeft_eq, Nat.pow_zero, Nat.mul_one, show (-(-1074 + (pl r0 : Int))).toNat = d by omega]
    rw [hint]
    obtain ⟨more, c1, c2, c3⟩ := cut_form .down s (mg r0) d
    rw [c1, c3 rfl]
    obtain ⟨m, hm⟩ : ∃ m, mg r0 = m := ⟨_, rfl⟩
    have hml := mg_lt r0
    rw [hm] at hv hml ⊢
    have hd1 : 1 ≤ d := by omega
    have hD2 : 2 ≤ 2 ^ d := Nat.le_trans (by decide : 2 ≤ 2 ^ 1) (Nat.pow_le_pow_right (by decide) hd1)
    obtain ⟨D, hD⟩ : ∃ D, 2 ^ d = D := ⟨_, rfl⟩
    rw [hD] at hbig hD2 ⊢
    obtain ⟨Z, hZ⟩ : ∃ Z, 2 ^ pl r0 = Z := ⟨_, rfl⟩
    have hZp : 0 < Z := hZ ▸ Nat.two_pow_pos _
    rw [hZ] at hbig hv
    obtain ⟨W, hW⟩ : ∃ W, m / D + (s && decide (m % D ≠ 0)).toNat = W := ⟨_, rfl⟩
    rw [hW]
    have hdm := Nat.div_add_mod m D
    have hmm := Nat.mod_lt m (by omega : 0 < D)
    have hq : m / D ≤ 4503599627370496 := by
      have : m / D ≤ m / 2 := Nat.div_le_div_left hD2 (by decide)
      omega
    have hWl : W ≤ 4503599627370497 := by
      rw [← hW]
      cases (s && decide (m % D ≠ 0)) <;> simp <;> omega
    have hWlog : W.log2 ≤ 52 := by
      rcases Nat.eq_zero_or_pos W with h0 | h0
      · subst h0; decide
      · have := (Nat.log2_lt (by omega : W ≠ 0)).2 (show W < 2 ^ 53 by omega)
        omega
    obtain ⟨r, e1, e2, e3, e4⟩ := whole_word s W hWlog
    refine ⟨r, if s then -(W : Int) else W, e1, e2, e4, ?_, ?_, ?_⟩
    · rw [sval_word (by omega), e3]
      cases s
      · simp only [Bool.false_eq_true, if_false]; push_cast; rfl
      · simp only [if_true]; push_cast; rw [Int.neg_mul]
    · rw [hv, hbig]
      cases s
      · simp only [Bool.false_eq_true, if_false, Bool.false_and, Bool.toNat_false, Nat.add_zero] at hW ⊢
        have : W * (D * Z) ≤ m * Z := by rw [← Nat.mul_assoc]; exact Nat.mul_le_mul_right _ (by rw [← hW, Nat.mul_comm]; omega)
        exact_mod_cast this
      · simp only [if_true, Bool.true_and] at hW ⊢
        have hm2 : m ≤ W * D := by
          by_cases hz : m % D = 0
          · rw [hz] at hW hdm
            simp at hW
            rw [← hW, Nat.mul_comm]; omega
          · rw [decide_eq_true hz] at hW
            simp at hW
            rw [← hW, Nat.add_mul, Nat.mul_comm]; omega
        have : m * Z ≤ W * (D * Z) := by rw [← Nat.mul_assoc]; exact Nat.mul_le_mul_right _ hm2
        have h2 : ((m * Z : Nat) : Int) ≤ ((W * (D * Z) : Nat) : Int) := by exact_mod_cast this
        push_cast at h2 ⊢
        rw [Int.neg_mul]
        omega
    · rw [hv, hbig]
      cases s
      · simp only [Bool.false_eq_true, if_false, Bool.false_and, Bool.toNat_false, Nat.add_zero] at hW ⊢
        have : m * Z < (W + 1) * (D * Z) := by
          rw [← Nat.mul_assoc]
          exact Nat.mul_lt_mul_of_pos_right (by rw [← hW, Nat.add_mul, Nat.mul_comm]; omega) hZp
        exact_mod_cast this
      · simp only [if_true, Bool.true_and] at hW ⊢
        have hm2 : W * D < m + D := by
          by_cases hz : m % D = 0
          · rw [hz] at hW hdm
            simp at hW
            rw [← hW, Nat.mul_comm]; omega
          · rw [decide_eq_true hz] at hW
            simp at hW
            rw [← hW, Nat.add_mul, Nat.mul_comm]; omega
        have : W * (D * Z) < (m + D) * Z := by rw [← Nat.mul_assoc]; exact Nat.mul_lt_mul_of_pos_right hm2 hZp
        have h2 : ((W * (D * Z) : Nat) : Int) < (((m + D) * Z : Nat) : Int) := by exact_mod_cast this
        push_cast at h2 ⊢
        rw [Int.add_mul] at h2 ⊢
        rw [Int.neg_mul]
        omega
  · -- a whole number
    obtain ⟨d, hd⟩ : ∃ d, pl r0 - 1074 = d := ⟨_, rfl⟩
    have hval : val r0 = mg r0 * 2 ^ d * big := by rw [hv, Nat.mul_assoc, Nat.mul_comm (2 ^ d), big_pow, show tho + d = pl r0 by omega]
    obtain ⟨W, hW⟩ : ∃ W, mg r0 * 2 ^ d = W := ⟨_, rfl⟩
    have hcut : ∀ way : Toward, way = .down ∨ way = .zero → way.cut s (mg r0 <<< (-1074 + (pl r0 : Int)).toNat) (-(-1074 + (pl r0 : Int))).toNat = W := by
      intro way hway
      rw [show (-1074 + (pl r0 : Int)).toNat = d by omega, Nat.shiftLeft_eq, hW, show (-(-1074 + (pl r0 : Int))).toNat = 0 by omega]
      obtain ⟨more, c1, c2, c3⟩ := cut_form way s W 0
      rw [c1]
      rcases hway with h | h
      · rw [c3 h]; simp [Nat.mod_one]
      · rw [c2 h]; simp
    have hr0p : 0 < r0 := by
      rcases Nat.eq_zero_or_pos r0 with h0 | h0
      · subst h0
        have : pl 0 = 0 := by decide
        omega
      · exact h0
    refine ⟨r0, if s then -(W : Int) else W, h, ?_, ?_, ?_, ?_, ?_⟩
    · unfold Datum.integral
      simp only
      rw [hcut .down (.inl rfl)]
      show double.nearest s W 0 = _
      rw [nearest_exact s W 0 r0 hr0p (by omega) ?_]
      · exact word_eq s r0
      · rw [hval, hW, show ((-1074 : Int) - 0).toNat = 0 from rfl, Nat.pow_zero, Nat.mul_one, show ((0 : Int) + 1074).toNat = tho from rfl]
        rfl
    · obtain ⟨w1, w2, w3⟩ := wordF_lt (s := s) (by omega : r0 < top)
      rw [read_num w1 (by rw [w2]; exact h), w2, w3]
      unfold Datum.toInt Datum.integral
      simp only
      rw [hcut .zero (.inr rfl)]
      unfold signed
      simp
    · rw [sval_word (by omega), hval, hW]
      cases s
      · simp only [Bool.false_eq_true, if_false]; push_cast; rfl
      · simp only [if_true]; push_cast; rw [Int.neg_mul]
    · rw [hval, hW]
      cases s
      · simp only [Bool.false_eq_true, if_false]; push_cast; exact Int.le_refl _
      · simp only [if_true]; push_cast; rw [Int.neg_mul]; exact Int.le_refl _
    · rw [hval, hW]
      cases s
      · simp only [Bool.false_eq_true, if_false]; push_cast; rw [Int.add_mul]; omega
      · simp only [if_true]; push_cast; rw [Int.add_mul, Int.neg_mul]; omega
end Go.Proofs.Ytpbdlmkcomnjbaa

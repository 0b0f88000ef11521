/- What this text proves: the contract of layer 1's Exceeds. The conditions are that bits are bits. -/
import Derived.Test.YtpbdlmkcomnjbaaLevH
namespace Go.Proofs.Ytpbdlmkcomnjbaa
open Go.RowKit
set_option linter.unusedVariables false
set_option linter.unusedSimpArgs false

def excF (part total : Int) (b : Nat) : Bool × Int := if 0 < b ∧ b ≤ one64 then (if part < 0 ∨ total < 0 ∨ 1125899906842624 < total then (false, 1) else (excB part.toNat total.toNat b, 0)) else (false, 11)
theorem conv_fig (m : Nat) (hm : m < 4503599627370496) (w : World) : (convert 22 29 (.float .f64 (1075 * 4503599627370496 + m))).run Try.prog w = .ok (.int .u64 ((4503599627370496 + m : Nat) : Int)) w := by
  refine run_convert_float_int w 22 29 .f64 .u64 (1075 * 4503599627370496 + m) _ (by rw [Try.underlying22]; rfl) Try.underlying29 ?_
  unfold floatToIntVal
  have hi : infR = 9218868437227405312 := rfl
  have hbn : bin = 4503599627370496 := rfl
  have hr : FloatKind.f64.decode (1075 * 4503599627370496 + m) = .number false (4503599627370496 + m) 0 := by
    show Ieee.double.read _ = _
    rw [read_pos (by omega)]
    have e1 : mg (1075 * 4503599627370496 + m) = 4503599627370496 + m := by unfold mg; rw [if_neg (by omega), hbn]; omega
    have e2 : pl (1075 * 4503599627370496 + m) = 1074 := by unfold pl; rw [hbn]; omega
    rw [e1, e2]
    rfl
  rw [hr]
  have ht : (Ieee.Datum.number false (4503599627370496 + m) 0).toInt .zero = some ((4503599627370496 + m : Nat) : Int) := by
    unfold Ieee.Datum.toInt Ieee.Datum.integral
    simp only
    have : Ieee.Toward.cut .zero false ((4503599627370496 + m) <<< (0 : Int).toNat) (-0 : Int).toNat = 4503599627370496 + m := by
      unfold Ieee.Toward.cut
      simp [Nat.mod_one]
    rw [this]
    unfold Ieee.signed
    simp
  rw [ht]
  simp only
  rw [if_pos ⟨by show (0 : Int) ≤ _; omega, by show _ ≤ (18446744073709551615 : Int); omega⟩]
set_option maxHeartbeats 1000000 in
theorem exceeds_any (part total : Int) (b : Nat) (hb : b < 18446744073709551616) (hp : part ≤ 9223372036854775807) (w : World) : Calls Try.prog 11 #[.int .i64 part, .int .i64 total, .float .f64 b] w fun e w' => e = .returned (.tuple #[.bool (excF part total b).1, .int .i64 (excF part total b).2]) ∧ Below w.heap.size w w' := by
  have hg := f_gtr (t := 22) (a := b) (b := 0) hb (by decide)
  have hl := f_leq (t := 22) (a := b) (b := 4607182418800017408) hb (by decide)
  have hlv := lvl b hb
  have o1 : one64 = 4607182418800017408 := rfl
  unfold excF
  by_cases hlev : 0 < b ∧ b ≤ one64
  · rw [decide_eq_true hlev, Bool.and_eq_true] at hlv
    rw [hlv.1] at hg
    rw [show leF b 4607182418800017408 = true from hlv.2] at hl
    rw [if_pos hlev]
    clear hlv
    by_cases h1 : part < 0
    · rw [if_pos (.inl h1)]
      have e1 : decide (part < 0) = true := decide_eq_true h1
      go_enter Try.func11, Try.ntmps11
      go_wp2_with fail
      go_ret2
      exact ⟨rfl, Below.refl _ _⟩
    have e1 : decide (part < 0) = false := decide_eq_false h1
    by_cases h2 : total < 0
    · rw [if_pos (.inr (.inl h2))]
      have e2 : decide (total < 0) = true := decide_eq_true h2
      go_enter Try.func11, Try.ntmps11
      go_wp2_with fail
      go_ret2
      exact ⟨rfl, Below.refl _ _⟩
    have e2 : decide (total < 0) = false := decide_eq_false h2
    by_cases h3 : 1125899906842624 < total
    · rw [if_pos (.inr (.inr h3))]
      have e3 : decide (1125899906842624 < total) = true := decide_eq_true h3
      go_enter Try.func11, Try.ntmps11
      go_wp2_with fail
      go_ret2
      exact ⟨rfl, Below.refl _ _⟩
    have e3 : decide (1125899906842624 < total) = false := decide_eq_false h3
    rw [if_neg (fun h => by omega)]
    obtain ⟨p, rfl⟩ : ∃ p : Nat, part = p := ⟨part.toNat, by omega⟩
    obtain ⟨T, rfl⟩ : ∃ T : Nat, total = T := ⟨total.toNat, by omega⟩
    rw [Int.toNat_natCast, Int.toNat_natCast]
    obtain ⟨k1, k2, k3, k4, k5⟩ := lv_facts hlev.1 hlev.2
    rw [k5 p T]
    have hi : infR = 9218868437227405312 := rfl
    have HF := Lib.hid (Frexp_pos b hlev.1 (by omega))
    have hml : nrm b % 4503599627370496 < 4503599627370496 := Nat.mod_lt _ (by decide)
    have HLD := Lib.hid (Ldexp_53 (nrm b % 4503599627370496) hml)
    have hcv := conv_fig (nrm b % 4503599627370496) hml
    have hfr : frF b = 1022 * 4503599627370496 + nrm b % 4503599627370496 := rfl
    rw [← hfr] at HLD
    have hlm : lvM b = 4503599627370496 + nrm b % 4503599627370496 := rfl
    rw [← hlm] at hcv
    obtain ⟨z, hz⟩ : ∃ z, 1075 * 4503599627370496 + nrm b % 4503599627370496 = z := ⟨_, rfl⟩
    rw [hz] at HLD hcv
    obtain ⟨fr, hfe⟩ : ∃ fr, frF b = fr := ⟨_, rfl⟩
    rw [hfe] at HF HLD
    obtain ⟨X, hX⟩ : ∃ X, frX b = X := ⟨_, rfl⟩
    rw [hX] at HF k1
    obtain ⟨M, hM⟩ : ∃ M, lvM b = M := ⟨_, rfl⟩
    rw [hM] at hcv k4 ⊢
    obtain ⟨S, hS⟩ : ∃ S, lvS b = S := ⟨_, rfl⟩
    rw [hS] at k1 k2 k3 ⊢
    have hpl : p < 9223372036854775808 := by omega
    have hTl : T ≤ 1125899906842624 := by omega
    have hTM : T * M < 1125899906842625 * 9007199254740992 := Nat.mul_lt_mul_of_lt_of_lt (by omega) k4
    have HM := Lib.hid (Go.Proofs.Try.bits_Mul64 T M (by omega) (by omega))
    have hX1 : X ≤ 1 := by omega
    have hX2 : -1200 ≤ X := by omega
    have hpi : (p : Int) ≤ 9223372036854775807 := hp
    have hTi : (T : Int) ≤ 1125899906842624 := by omega
    have hSi : (S : Int) ≤ 1200 := by omega
    obtain ⟨hiN, hhi⟩ : ∃ x, T * M / 18446744073709551616 = x := ⟨_, rfl⟩
    obtain ⟨loN, hlo⟩ : ∃ x, T * M % 18446744073709551616 = x := ⟨_, rfl⟩
    rw [hhi, hlo] at HM
    have hN : T * M = hiN * 18446744073709551616 + loN := by omega
    have hlol : loN < 18446744073709551616 := by omega
    have hhil : hiN < 1125899906842624 := by omega
    clear k5 hfr hlm hz hfe hX hM hS hhi hlo hml h1 h2 h3 hlev o1 hi hp hb
    by_cases h128 : 128 ≤ S
    · have e4 : decide (128 ≤ (S : Int)) = true := decide_eq_true (by omega)
      have hpos : decide (T * M < p * 2 ^ S) = decide (0 < p) := by
        by_cases h0 : p = 0
        · subst h0; simp
        · have hge : 2 ^ 128 ≤ p * 2 ^ S := by
            calc 2 ^ 128 ≤ 2 ^ S := Nat.pow_le_pow_right (by decide) h128
              _ = 1 * 2 ^ S := by rw [Nat.one_mul]
              _ ≤ p * 2 ^ S := Nat.mul_le_mul_right _ (by omega)
          rw [decide_eq_true (by omega : 0 < p)]
          refine decide_eq_true ?_
          refine Nat.lt_of_lt_of_le hTM (Nat.le_trans ?_ hge)
          decide
      rw [hpos]
      clear hTM hpos hN
      go_enter Try.func11, Try.ntmps11
      go_wp2_with fail
      with_reducible refine (HF.out _).mono ?_
      rintro e w1 ⟨rfl, rfl⟩
      go_wp2_with fail
      with_reducible refine (HLD.out _).mono ?_
      rintro e w1 ⟨rfl, rfl⟩
      go_wp2_with fail
      with_reducible refine (HM.out _).mono ?_
      rintro e w1 ⟨rfl, rfl⟩
      go_wp2_with fail
      go_ret2
      exact ⟨rfl, Below.refl _ _⟩
    have e4 : decide (128 ≤ (S : Int)) = false := decide_eq_false (by omega)
    have HS := Lib.hid (shifted_any p S (by omega) (by omega) (S : Int) rfl)
    obtain ⟨up, hup⟩ : ∃ x, (shF p S).1 = x := ⟨_, rfl⟩
    obtain ⟨dn, hdn⟩ : ∃ x, (shF p S).2 = x := ⟨_, rfl⟩
    have hres : decide (T * M < p * 2 ^ S) = (decide (hiN < up) || (up == hiN && decide (loN < dn))) := by
      unfold shF at hup hdn
      by_cases hL : Lib.bitLen p + S > 128
      · rw [if_pos hL] at hup hdn
        simp only at hup hdn
        rw [← hup, decide_eq_true (show hiN < 18446744073709551615 by omega), Bool.true_or]
        refine decide_eq_true ?_
        have hp0 : p ≠ 0 := by
          rintro rfl
          have : Lib.bitLen 0 = 0 := by decide
          omega
        have h2 := bitLen_ge hp0 (by omega : p < 18446744073709551616)
        have hge : 2 ^ 129 ≤ 2 * p * 2 ^ S := by
          calc 2 ^ 129 ≤ 2 ^ (Lib.bitLen p + S) := Nat.pow_le_pow_right (by decide) (by omega)
            _ = 2 ^ Lib.bitLen p * 2 ^ S := Nat.pow_add _ _ _
            _ ≤ 2 * p * 2 ^ S := Nat.mul_le_mul_right _ h2
        rw [Nat.mul_assoc] at hge
        have e129 : (2 : Nat) ^ 129 = 2 * 340282366920938463463374607431768211456 := by decide
        omega
      · rw [if_neg hL] at hup hdn
        simp only at hup hdn
        exact (lex hN (by omega : p * 2 ^ S = up * 18446744073709551616 + dn) hlol (by omega)).symm
    rw [hup, hdn] at HS
    rw [hres]
    clear hres hup hdn hTM hN
    by_cases c1 : hiN < up
    · rw [decide_eq_true c1, Bool.true_or]
      have d1 : decide ((hiN : Int) < (up : Int)) = true := decide_eq_true (by omega)
      go_enter Try.func11, Try.ntmps11
      go_wp2_with fail
      with_reducible refine (HF.out _).mono ?_
      rintro e w1 ⟨rfl, rfl⟩
      go_wp2_with fail
      with_reducible refine (HLD.out _).mono ?_
      rintro e w1 ⟨rfl, rfl⟩
      go_wp2_with fail
      with_reducible refine (HM.out _).mono ?_
      rintro e w1 ⟨rfl, rfl⟩
      go_wp2_with fail
      with_reducible refine (HS.out _).mono ?_
      rintro e w9 ⟨rfl, hbel⟩
      have HBL := Lib.hid hbel
      clear hbel
      go_wp2_with fail
      go_ret2
      exact ⟨rfl, HBL.out⟩
    · rw [decide_eq_false c1, Bool.false_or]
      have d1 : decide ((hiN : Int) < (up : Int)) = false := decide_eq_false (by omega)
      by_cases c2 : up = hiN
      · subst c2
        rw [beq_self_eq_true, Bool.true_and]
        have d2 : ((up : Int) == (up : Int)) = true := by simp
        go_enter Try.func11, Try.ntmps11
        go_wp2_with fail
        with_reducible refine (HF.out _).mono ?_
        rintro e w1 ⟨rfl, rfl⟩
        go_wp2_with fail
        with_reducible refine (HLD.out _).mono ?_
        rintro e w1 ⟨rfl, rfl⟩
        go_wp2_with fail
        with_reducible refine (HM.out _).mono ?_
        rintro e w1 ⟨rfl, rfl⟩
        go_wp2_with fail
        with_reducible refine (HS.out _).mono ?_
        rintro e w9 ⟨rfl, hbel⟩
        have HBL := Lib.hid hbel
        clear hbel
        go_wp2_with fail
        go_ret2
        exact ⟨rfl, HBL.out⟩
      · rw [show (up == hiN) = false from beq_eq_false_iff_ne.2 c2, Bool.false_and]
        have d2 : ((up : Int) == (hiN : Int)) = false := by rw [beq_eq_false_iff_ne]; omega
        have d4 : ¬ up = hiN := c2
        go_enter Try.func11, Try.ntmps11
        go_wp2_with fail
        with_reducible refine (HF.out _).mono ?_
        rintro e w1 ⟨rfl, rfl⟩
        go_wp2_with fail
        with_reducible refine (HLD.out _).mono ?_
        rintro e w1 ⟨rfl, rfl⟩
        go_wp2_with fail
        with_reducible refine (HM.out _).mono ?_
        rintro e w1 ⟨rfl, rfl⟩
        go_wp2_with fail
        with_reducible refine (HS.out _).mono ?_
        rintro e w9 ⟨rfl, hbel⟩
        have HBL := Lib.hid hbel
        clear hbel
        go_wp2_with fail
        go_ret2
        exact ⟨rfl, HBL.out⟩
  · rw [decide_eq_false hlev] at hlv
    rw [if_neg hlev]
    cases h0 : ltF 0 b with
    | false =>
      rw [h0] at hg
      clear hlv hlev h0 hl
      go_enter Try.func11, Try.ntmps11
      go_wp2_with fail
      go_ret2
      exact ⟨rfl, Below.refl _ _⟩
    | true =>
      rw [h0] at hg hlv
      rw [Bool.true_and] at hlv
      rw [show leF b 4607182418800017408 = false from hlv] at hl
      clear hlv hlev h0
      go_enter Try.func11, Try.ntmps11
      go_wp2_with fail
      go_ret2
      exact ⟨rfl, Below.refl _ _⟩
end Go.Proofs.Ytpbdlmkcomnjbaa

/- What this text proves: the contracts of Power, Key and the reference's times, Power, Key, and of the law's product: powers and products modulo the prime. The conditions are that the numbers fit their kinds. -/
import Derived.Test.YtcnmoallgfdomaaDoorDiv
import Derived.Test.YtcnmoallgfdomaaDoorPowMath
namespace Go.Proofs.YtcnmoallgfdomaaDoor
open Go.RowKit
set_option linter.unusedVariables false
set_option linter.unusedSimpArgs false

theorem timesP (a b : Nat) (w : World) (ha : a < 18446744073709551616) (hb : b < 18446744073709551616) :
    Calls Tryd.prog 15 #[.int .u64 a, .int .u64 b, .int .u64 2305843009213693951] w fun e w' => e = .returned (.int .u64 ((a * b % PP : Nat) : Int)) ∧ Below w.heap.size w w' := by
  have := times_any a b PP w ha hb PP_bd.1 PP_bd.2.1
  rwa [PP_int] at this

set_option maxHeartbeats 2000000 in
theorem power_any (b0 e0 : Nat) (w : World) (hb : b0 < 18446744073709551616) (he : e0 < 18446744073709551616) :
    Calls Tryd.prog 13 #[.int .u64 b0, .int .u64 e0] w fun e w' => e = .returned (.int .u64 ((b0 ^ e0 % PP : Nat) : Int)) ∧ Below w.heap.size w w' := by
  have HP := PP_bd
  go_enter Tryd.func13, Tryd.ntmps13
  go_wp2_with fail
  go_loopw [0, 1, 5] (fun s0 s1 s5 wr => ∃ b e n : Nat, s0 = .int .u64 (b : Int) ∧ s1 = .int .u64 (e : Int) ∧ s5 = .int .u64 (n : Int) ∧ b < 18446744073709551616 ∧ e < 18446744073709551616 ∧ n < PP ∧ Hid (n * b ^ e % PP = b0 ^ e0 % PP) ∧ Below w.heap.size w wr) (fun _ s1 _ _ => (intOf s1).toNat)
  case atStart => exact ⟨b0, e0, 1, rfl, rfl, rfl, hb, he, HP.2.2, Lib.hid (by rw [Nat.one_mul]), Below.refl _ _⟩
  case round =>
    obtain ⟨b, e, n, rfl, rfl, rfl, lb, le, ln, H, hbel⟩ := hrel
    have HB := Lib.hid (timesP b b wr lb lb)
    rcases Nat.eq_zero_or_pos e with h0 | h0
    · subst h0
      go_wp2_with fail
      go_ret
      refine ⟨?_, hbel⟩
      have h := H.out
      rw [Nat.pow_zero, Nat.mul_one, Nat.mod_eq_of_lt ln] at h
      rw [← h]
      rfl
    · have t0 : decide ((0 : Int) < (e : Int)) = true := by simp; omega
      have HM := Lib.hid (one_nat e le)
      rcases Nat.mod_two_eq_zero_or_one e with hm | hm
      · have E1 : bits .and .u64 (e : Int) 1 = 0 := by rw [HM.out, hm]; rfl
        have H2 := Lib.hid (pow_even H.out hm)
        have HB' := Lib.hid (timesP b b wr lb lb)
        clear hm
        go_wp2_with fail
        with_reducible refine HB'.out.mono ?_
        rintro en w2 ⟨rfl, b2⟩
        have l2 : b * b % PP < PP := Nat.mod_lt _ (by omega)
        obtain ⟨bb, hbb⟩ : ∃ x, b * b % PP = x := ⟨_, rfl⟩
        rw [hbb] at H2 l2 ⊢
        clear hbb
        have hb2 := step_b hbel b2
        go_wp2_with fail
        go_roundw
        case rel => exact ⟨bb, e / 2, n, rfl, rfl, rfl, by omega, by omega, ln, H2, hb2⟩
        case measure => simp [intOf]; omega
      · have E1 : bits .and .u64 (e : Int) 1 = 1 := by rw [HM.out, hm]; rfl
        have H2 := Lib.hid (pow_odd H.out hm)
        have HN := Lib.hid (timesP n b wr (by omega) lb)
        have HB' := Lib.hid (fun W => timesP b b W lb lb)
        clear hm
        go_wp2_with fail
        with_reducible refine HN.out.mono ?_
        rintro en w2 ⟨rfl, b2⟩
        have l3 : n * b % PP < PP := Nat.mod_lt _ (by omega)
        obtain ⟨nn, hnn⟩ : ∃ x, n * b % PP = x := ⟨_, rfl⟩
        rw [hnn] at H2 l3 ⊢
        clear hnn
        have hb2 := step_b hbel b2
        go_wp2_with fail
        with_reducible refine (HB'.out w2).mono ?_
        rintro en w3 ⟨rfl, b3⟩
        have l2 : b * b % PP < PP := Nat.mod_lt _ (by omega)
        obtain ⟨bb, hbb⟩ : ∃ x, b * b % PP = x := ⟨_, rfl⟩
        rw [hbb] at H2 l2 ⊢
        clear hbb
        have hb3 := step_b hb2 b3
        go_wp2_with fail
        go_roundw
        case rel => exact ⟨bb, e / 2, nn, rfl, rfl, rfl, by omega, by omega, l3, H2, hb3⟩
        case measure => simp [intOf]; omega
end Go.Proofs.YtcnmoallgfdomaaDoor

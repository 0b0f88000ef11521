/- What this text proves: the contracts of the reference's against and Above, whole. The conditions are that bits are bits. -/
import Derived.Test.YtpbdlmkcomnjbaaLevP
namespace Go.Proofs.Ytpbdlmkcomnjbaa
open Go.RowKit
set_option linter.unusedVariables false
set_option linter.unusedSimpArgs false

theorem against_any (m k : Nat) (e : Int) (E : Nat) (hE : e + 1074 = (E : Int)) (hm : 0 < m) (hml : m < 9007199254740992) (hnorm : 12 ≤ e → 4503599627370496 ≤ m) (hk : k < 18446744073709551616) (w : World) : Calls Try.prog 36 #[.int .u64 (m : Int), .int .i64 e, .int .u64 (k : Int)] w fun e w' => e = .returned (.tuple #[.bool (decide (k * big < m * 2 ^ E)), .bool (decide (m * 2 ^ E < k * big))]) ∧ w' = w := by
  have ht : tho = 1074 := rfl
  have hbp := big_pos
  by_cases h12 : 12 ≤ e
  · obtain ⟨j, hj⟩ : ∃ j : Nat, e = j := ⟨e.toNat, by omega⟩
    have hbig : 2 ^ E = big * 2 ^ j := by rw [big_pow, show tho + j = E by omega]
    have hge : 18446744073709551616 * big ≤ m * 2 ^ E := by
      have h1 : (4096 : Nat) ≤ 2 ^ j := Nat.le_trans (by decide : 4096 ≤ 2 ^ 12) (Nat.pow_le_pow_right (by decide) (by omega))
      have h2 : 4503599627370496 * 4096 ≤ m * 2 ^ j := Nat.mul_le_mul (hnorm h12) h1
      rw [hbig, Nat.mul_comm big, ← Nat.mul_assoc]
      exact Nat.mul_le_mul_right _ (by omega)
    have hlt : k * big < m * 2 ^ E := Nat.lt_of_lt_of_le (Nat.mul_lt_mul_of_pos_right hk hbp) hge
    rw [decide_eq_true hlt, decide_eq_false (by omega : ¬ m * 2 ^ E < k * big)]
    exact ag_12 m k e (decide_eq_true h12) hm w
  by_cases h0 : 0 ≤ e
  · obtain ⟨j, hj⟩ : ∃ j : Nat, e = j := ⟨e.toNat, by omega⟩
    have hbig : 2 ^ E = big * 2 ^ j := by rw [big_pow, show tho + j = E by omega]
    have hj2 : 2 ^ j ≤ 2 ^ 11 := Nat.pow_le_pow_right (by decide) (by omega)
    have hx : m * 2 ^ j < 9007199254740992 * 2 ^ 11 := Nat.lt_of_lt_of_le (Nat.mul_lt_mul_of_pos_right hml (Nat.two_pow_pos j)) (Nat.mul_le_mul_left _ hj2)
    have h53 : m / 2 ^ (64 - j) = 0 := Nat.div_eq_of_lt (Nat.lt_of_lt_of_le (show m < 2 ^ 53 from hml) (Nat.pow_le_pow_right (by decide) (by omega)))
    have hv : m * 2 ^ E = m * 2 ^ j * big := by rw [hbig, Nat.mul_comm big, Nat.mul_assoc]
    obtain ⟨x, hxe⟩ : ∃ x, m * 2 ^ j = x := ⟨_, rfl⟩
    rw [hxe] at hv hx
    have e1 : decide (k * big < m * 2 ^ E) = decide (k < x) := by rw [hv, decide_eq_decide]; exact Nat.mul_lt_mul_right hbp
    have e2 : decide (m * 2 ^ E < k * big) = decide (x < k) := by rw [hv, decide_eq_decide]; exact Nat.mul_lt_mul_right hbp
    rw [e1, e2]
    refine ag_0 m k j x e hj (decide_eq_false (by omega)) (by omega) ?_ ?_ w
    · have : ((m / 2 ^ (64 - j) : Nat) : Int) = 0 := by rw [h53]; rfl
      rw [Int.natCast_ediv, Int.natCast_pow] at this
      exact this
    · have h1 : (m : Int) * 2 ^ j = ((m * 2 ^ j : Nat) : Int) := by rw [Int.natCast_mul, Int.natCast_pow]; rfl
      rw [h1, hxe]
      exact wrap_u64 x (by omega)
  by_cases h63 : e < -63
  · have hlt : m * 2 ^ E < big := by
      have h1 : m * 2 ^ E < 2 ^ 53 * 2 ^ E := Nat.mul_lt_mul_of_pos_right hml (Nat.two_pow_pos E)
      rw [pow_two_add] at h1
      exact Nat.lt_of_lt_of_le h1 (Nat.pow_le_pow_right (by decide) (by omega))
    have hp : 0 < m * 2 ^ E := Nat.mul_pos hm (Nat.two_pow_pos E)
    have e1 : decide (k * big < m * 2 ^ E) = decide (k = 0) := by
      rw [decide_eq_decide]
      constructor
      · intro h
        rcases Nat.eq_zero_or_pos k with h2 | h2
        · exact h2
        · have : 1 * big ≤ k * big := Nat.mul_le_mul_right _ h2
          omega
      · rintro rfl; rw [Nat.zero_mul]; exact hp
    have e2 : decide (m * 2 ^ E < k * big) = decide (0 < k) := by
      rw [decide_eq_decide]
      constructor
      · intro h
        rcases Nat.eq_zero_or_pos k with h2 | h2
        · subst h2; rw [Nat.zero_mul] at h; omega
        · exact h2
      · intro h2
        have : 1 * big ≤ k * big := Nat.mul_le_mul_right _ h2
        omega
    rw [e1, e2]
    exact ag_less m k e (decide_eq_false h12) (decide_eq_false h0) (decide_eq_true h63) hm w
  · obtain ⟨d, hd⟩ : ∃ d : Nat, -e = d := ⟨(-e).toNat, by omega⟩
    have hbig : big = 2 ^ d * 2 ^ E := by unfold big; rw [pow_two_add, show d + E = tho by omega]
    have hE0 := Nat.two_pow_pos E
    obtain ⟨D, hD⟩ : ∃ D, 2 ^ d = D := ⟨_, rfl⟩
    have hD1 : 1 ≤ D := hD ▸ Nat.two_pow_pos d
    have hD64 : D < 18446744073709551616 := by
      rw [← hD]
      exact Nat.lt_of_le_of_lt (Nat.pow_le_pow_right (by decide) (show d ≤ 63 by omega)) (by decide)
    rw [hD] at hbig
    have hdm := Nat.div_add_mod m D
    have hmm := Nat.mod_lt m (by omega : 0 < D)
    obtain ⟨wh, hwh⟩ : ∃ x, m / D = x := ⟨_, rfl⟩
    obtain ⟨rs, hrs⟩ : ∃ x, m % D = x := ⟨_, rfl⟩
    rw [hwh, hrs] at hdm
    rw [hrs] at hmm
    have k1 : k * big < m * 2 ^ E ↔ k * D < m := by rw [hbig, ← Nat.mul_assoc]; exact Nat.mul_lt_mul_right hE0
    have k2 : m * 2 ^ E < k * big ↔ m < k * D := by rw [hbig, ← Nat.mul_assoc]; exact Nat.mul_lt_mul_right hE0
    have r1 : k * D < m ↔ (k < wh ∨ (wh = k ∧ 0 < rs)) := by
      constructor
      · intro h
        rcases Nat.lt_trichotomy k wh with h2 | h2 | h2
        · exact .inl h2
        · subst h2; rw [Nat.mul_comm] at h; exact .inr ⟨rfl, by omega⟩
        · have : (wh + 1) * D ≤ k * D := Nat.mul_le_mul_right _ h2
          rw [Nat.add_mul, Nat.mul_comm wh] at this
          omega
      · rintro (h2 | ⟨h2, h3⟩)
        · have : (k + 1) * D ≤ wh * D := Nat.mul_le_mul_right _ h2
          rw [Nat.add_mul, Nat.mul_comm wh] at this
          omega
        · subst h2; rw [Nat.mul_comm]; omega
    have r2 : m < k * D ↔ wh < k := by
      constructor
      · intro h
        rcases Nat.lt_or_ge wh k with h2 | h2
        · exact h2
        · have : k * D ≤ wh * D := Nat.mul_le_mul_right _ h2
          rw [Nat.mul_comm wh] at this
          omega
      · intro h2
        have : (wh + 1) * D ≤ k * D := Nat.mul_le_mul_right _ h2
        rw [Nat.add_mul, Nat.mul_comm wh] at this
        omega
    have e1 : decide (k * big < m * 2 ^ E) = (decide (k < wh) || (wh == k && decide (0 < rs))) := by
      by_cases h : k * big < m * 2 ^ E
      · rw [decide_eq_true h]
        rcases r1.1 (k1.1 h) with h2 | ⟨h2, h3⟩
        · rw [decide_eq_true h2, Bool.true_or]
        · rw [beq_iff_eq.2 h2, decide_eq_true h3, Bool.and_self, Bool.or_true]
      · rw [decide_eq_false h]
        have h1 := fun x => h (k1.2 (r1.2 x))
        rw [decide_eq_false (fun x => h1 (.inl x)), Bool.false_or]
        by_cases h2 : wh = k
        · rw [decide_eq_false (fun x => h1 (.inr ⟨h2, x⟩)), Bool.and_false]
        · rw [beq_eq_false_iff_ne.2 h2, Bool.false_and]
    have e2 : decide (m * 2 ^ E < k * big) = decide (wh < k) := by rw [decide_eq_decide]; exact k2.trans r2
    rw [e1, e2]
    refine ag_mid m k e (decide_eq_false h12) (decide_eq_false h0) (decide_eq_false h63) d D wh rs hd (by omega) (by omega) (by omega) ?_ (by rw [beq_eq_false_iff_ne]; omega) (by omega) ?_ ?_ ?_ w
    · have h1 : (2 : Int) ^ d = ((2 ^ d : Nat) : Int) := by rw [Int.natCast_pow]; rfl
      rw [h1, hD]
      exact wrap_u64 D hD64
    · have h1 : (m : Int) / 2 ^ d = ((m / 2 ^ d : Nat) : Int) := by rw [Int.natCast_ediv, Int.natCast_pow]; rfl
      rw [h1, hD, hwh]
    · rw [← hrs]; exact (Int.natCast_emod m D).symm
    · rw [← hrs, Int.tmod_eq_emod_of_nonneg (by omega)]; exact (Int.natCast_emod m D).symm
theorem part_fin {b : Nat} (h : rg b < infR) : partM b = mg (rg b) ∧ partX b + 1074 = (pl (rg b) : Int) ∧ partE b ≠ 2047 ∧ (12 ≤ partX b → 4503599627370496 ≤ partM b) := by
  have hbn : bin = 4503599627370496 := rfl
  have hi : infR = 9218868437227405312 := rfl
  have hE : partE b ≤ 2046 := by unfold partE; rw [hbn]; omega
  obtain ⟨r, hr⟩ : ∃ r, rg b = r := ⟨_, rfl⟩
  have hE2 : partE b = r / bin := by unfold partE; rw [hr]
  have hX : partX b + 1074 = (pl r : Int) := by
    unfold partX pl
    rw [if_neg (by omega), ← hE2]
    split <;> omega
  have hM : partM b = mg r := by
    unfold partM mg
    rw [hr]
    by_cases h : r < bin
    · have h0 : partE b = 0 := by rw [hE2, Nat.div_eq_of_lt h]
      rw [if_pos h, if_pos (.inr h0), Nat.mod_eq_of_lt h]
    · have h0 : partE b ≠ 0 := by
        have := (Nat.one_le_div_iff (by decide : 0 < bin)).2 (by omega : bin ≤ r)
        omega
      rw [if_neg h, if_neg (by omega), Nat.add_comm]
  rw [hr]
  refine ⟨hM, hX, by omega, fun h12 => ?_⟩
  rw [hM]
  unfold mg
  have : ¬ r < bin := by
    intro h
    have : pl r = 0 := by unfold pl; rw [Nat.div_eq_of_lt h]
    omega
  rw [if_neg this]
  omega
set_option maxRecDepth 8000 in
set_option maxHeartbeats 1000000 in
theorem rabove_any (b : Nat) (n : Int) (hb : b < 18446744073709551616) (hn : -9223372036854775808 ≤ n ∧ n ≤ 9223372036854775807) (w : World) : Calls Try.prog 21 #[.float .f64 b, .int .i64 n] w fun e w' => e = .returned (.bool (abvF b n)) ∧ w' = w := by
  have HP := Lib.hid (parts_any b hb)
  have hbp := big_pos
  have hBp : (0 : Int) < (big : Int) := by omega
  by_cases hE : partE b = 2047
  · have hX : partX b = 2047 := by unfold partX; rw [if_pos hE]
    have hM : partM b = rg b % bin := by unfold partM; rw [if_pos (.inl hE)]
    have hi : (rg b = infR) ↔ partM b = 0 := by
      have h1 := rg_lt b
      rw [hM]
      unfold partE bin at hE
      unfold infR bin
      unfold top at h1
      omega
    have hnn : nanB b = decide (partM b ≠ 0) := by rw [nan_part, decide_eq_true hE, Bool.true_and, hM]
    have ha : abvF b n = (decide (partM b = 0) && !sg b) := by
      unfold abvF
      rw [hnn]
      by_cases h0 : partM b = 0
      · rw [decide_eq_false (fun x => x h0), if_neg (by decide), if_pos (hi.2 h0), decide_eq_true h0, Bool.true_and]
      · rw [decide_eq_true (show partM b ≠ 0 from h0), if_pos rfl, decide_eq_false h0, Bool.false_and]
    rw [ha]
    rw [hX] at HP
    obtain ⟨m, hm⟩ : ∃ m, partM b = m := ⟨_, rfl⟩
    obtain ⟨s, hs⟩ : ∃ s, sg b = s := ⟨_, rfl⟩
    rw [hm, hs] at HP
    rw [hm, hs]
    clear ha hnn hi hM hX hE hm hs hbp hBp hn hb
    by_cases h0 : m = 0
    · subst h0
      have HP0 : Hid (∀ w, Calls Try.prog 27 #[.float .f64 b] w fun e w' => e = .returned (.tuple #[.bool s, .int .u64 0, .int .i64 2047]) ∧ w' = w) := HP
      rw [show decide (0 = 0) = true from rfl, Bool.true_and]
      clear HP
      go_enter Try.func21, Try.ntmps21
      go_wp2_with fail
      with_reducible refine (HP0.out _).mono ?_
      rintro e w1 ⟨rfl, rfl⟩
      go_wp2_with fail
      go_ret
      exact ⟨rfl, rfl⟩
    · rw [decide_eq_false h0, Bool.false_and]
      have q0 : ((m : Int) == 0) = false := by rw [beq_eq_false_iff_ne]; omega
      go_enter Try.func21, Try.ntmps21
      go_wp2_with fail
      with_reducible refine (HP.out _).mono ?_
      rintro e w1 ⟨rfl, rfl⟩
      go_wp2_with fail
      go_ret
      exact ⟨rfl, rfl⟩
  · have hfin : rg b < infR := by
      have h1 := rg_lt b
      unfold partE bin at hE
      unfold infR
      unfold top at h1
      omega
    obtain ⟨p1, p2, p3, p4⟩ := part_fin hfin
    have nb : nanB b = false := by rw [nan_part, decide_eq_false hE, Bool.false_and]
    have ha : abvF b n = decide (n * (big : Int) < sval b) := by unfold abvF; rw [nb, if_neg (by decide), if_neg (by omega)]
    have hsv : sval b = if sg b then -((partM b * 2 ^ pl (rg b) : Nat) : Int) else ((partM b * 2 ^ pl (rg b) : Nat) : Int) := by
      have hv : val (rg b) = partM b * 2 ^ pl (rg b) := by rw [p1]; rfl
      unfold sval
      rw [hv]
    rw [ha, hsv]
    have hml : partM b < 9007199254740992 := by rw [p1]; exact mg_lt _
    have hXl : partX b ≤ 971 := by
      unfold partX
      have := partE_le b
      rw [if_neg hE]
      split <;> omega
    have hXg : -1074 ≤ partX b := by unfold partX; rw [if_neg hE]; split <;> omega
    obtain ⟨m, hm⟩ : ∃ m, partM b = m := ⟨_, rfl⟩
    obtain ⟨s, hs⟩ : ∃ s, sg b = s := ⟨_, rfl⟩
    obtain ⟨X, hX⟩ : ∃ s, partX b = s := ⟨_, rfl⟩
    obtain ⟨E, hEe⟩ : ∃ s, pl (rg b) = s := ⟨_, rfl⟩
    rw [hm, hs, hX] at HP
    rw [hm, hs, hEe]
    rw [hX, hEe] at p2
    rw [hX, hm] at p4
    rw [hm] at hml
    rw [hX] at hXl hXg
    have qX : (X == 2047) = false := by rw [beq_eq_false_iff_ne]; omega
    clear ha hsv nb p1 p3 hfin hE hm hs hX hEe hb
    have hzp : ∀ z : Int, z * (big : Int) < 0 ↔ z < 0 := fun z => by
      constructor
      · intro h
        rcases Int.lt_or_le z 0 with h1 | h1
        · exact h1
        · have := Int.mul_nonneg h1 (by omega : (0 : Int) ≤ (big : Int)); omega
      · intro h
        have : (z + 1) * (big : Int) ≤ 0 * (big : Int) := Int.mul_le_mul_of_nonneg_right (by omega) (by omega)
        rw [Int.add_mul] at this
        omega
    by_cases h0 : m = 0
    · subst h0
      have HP0 : Hid (∀ w, Calls Try.prog 27 #[.float .f64 b] w fun e w' => e = .returned (.tuple #[.bool s, .int .u64 0, .int .i64 X]) ∧ w' = w) := HP
      have hr : decide (n * (big : Int) < (if s then -((0 * 2 ^ E : Nat) : Int) else ((0 * 2 ^ E : Nat) : Int))) = decide (n < 0) := by
        rw [Nat.zero_mul, decide_eq_decide]
        cases s <;> exact hzp n
      rw [hr]
      clear hr HP hzp p4 p2 hml hXl hXg hbp hBp hn
      cases s with
      | false =>
        by_cases hn0 : n < 0
        · have dn : decide (n < 0) = true := decide_eq_true hn0
          rw [dn]
          go_enter Try.func21, Try.ntmps21
          go_wp2_with fail
          with_reducible refine (HP0.out _).mono ?_
          rintro e w1 ⟨rfl, rfl⟩
          go_wp2_with fail
          go_ret
          exact ⟨rfl, rfl⟩
        · have dn : decide (n < 0) = false := decide_eq_false hn0
          rw [dn]
          go_enter Try.func21, Try.ntmps21
          go_wp2_with fail
          with_reducible refine (HP0.out _).mono ?_
          rintro e w1 ⟨rfl, rfl⟩
          go_wp2_with fail
          go_ret
          exact ⟨rfl, rfl⟩
      | true =>
        by_cases hn0 : n < 0
        · have dn : decide (n < 0) = true := decide_eq_true hn0
          rw [dn]
          go_enter Try.func21, Try.ntmps21
          go_wp2_with fail
          with_reducible refine (HP0.out _).mono ?_
          rintro e w1 ⟨rfl, rfl⟩
          go_wp2_with fail
          go_ret
          exact ⟨rfl, rfl⟩
        · have dn : decide (n < 0) = false := decide_eq_false hn0
          rw [dn]
          go_enter Try.func21, Try.ntmps21
          go_wp2_with fail
          with_reducible refine (HP0.out _).mono ?_
          rintro e w1 ⟨rfl, rfl⟩
          go_wp2_with fail
          go_ret
          exact ⟨rfl, rfl⟩
    · have q0 : ((m : Int) == 0) = false := by rw [beq_eq_false_iff_ne]; omega
      have hVp : 0 < m * 2 ^ E := Nat.mul_pos (by omega) (Nat.two_pow_pos E)
      have HAG := Lib.hid (fun k hk => against_any m k X E p2 (by omega) hml p4 hk)
      obtain ⟨V, hV⟩ : ∃ V, m * 2 ^ E = V := ⟨_, rfl⟩
      rw [hV] at hVp
      rw [hV]
      simp only [hV] at HAG
      cases s with
      | false =>
        simp only [Bool.false_eq_true, if_false]
        by_cases hn0 : n < 0
        · have dn : decide (n < 0) = true := decide_eq_true hn0
          have := (hzp n).2 hn0
          rw [decide_eq_true (by omega : n * (big : Int) < (V : Int))]
          clear this hzp p4 p2 hml hXl hXg hbp hBp hn hV hVp HAG
          go_enter Try.func21, Try.ntmps21
          go_wp2_with fail
          with_reducible refine (HP.out _).mono ?_
          rintro e w1 ⟨rfl, rfl⟩
          go_wp2_with fail
          go_ret
          exact ⟨rfl, rfl⟩
        · have dn : decide (n < 0) = false := decide_eq_false hn0
          obtain ⟨k, rfl⟩ : ∃ k : Nat, n = k := ⟨n.toNat, by omega⟩
          have HA := Lib.hid (HAG.out k (by omega))
          have hr : decide ((k : Int) * (big : Int) < (V : Int)) = decide (k * big < V) := by
            rw [decide_eq_decide, ← Int.natCast_mul]; omega
          rw [hr]
          obtain ⟨b1, hb1⟩ : ∃ x, decide (k * big < V) = x := ⟨_, rfl⟩
          obtain ⟨b2, hb2⟩ : ∃ x, decide (V < k * big) = x := ⟨_, rfl⟩
          rw [hb1, hb2] at HA
          rw [hb1]
          have hk1 : (k : Int) ≤ 9223372036854775807 := hn.2
          clear hr hb1 hb2 hzp p4 p2 hml hXl hXg hbp hBp hn hV hVp HAG hn0
          go_enter Try.func21, Try.ntmps21
          go_wp2_with fail
          with_reducible refine (HP.out _).mono ?_
          rintro e w1 ⟨rfl, rfl⟩
          go_wp2_with fail
          with_reducible refine (HA.out _).mono ?_
          rintro e w1 ⟨rfl, rfl⟩
          go_wp2_with fail
          go_ret
          exact ⟨rfl, rfl⟩
      | true =>
        simp only [if_true]
        by_cases hn0 : n < 0
        · have dn : decide (n < 0) = true := decide_eq_true hn0
          obtain ⟨k, hk⟩ : ∃ k : Nat, -n = k := ⟨(-n).toNat, by omega⟩
          obtain ⟨kk, hkk⟩ : ∃ k : Nat, n + 18446744073709551616 = k := ⟨(n + 18446744073709551616).toNat, by omega⟩
          have HA := Lib.hid (HAG.out k (by omega))
          have hr : decide (n * (big : Int) < -(V : Int)) = decide (V < k * big) := by
            rw [decide_eq_decide]
            have h1 : n * (big : Int) = -((k * big : Nat) : Int) := by rw [Int.natCast_mul, ← hk, Int.neg_mul, Int.neg_neg]
            rw [h1]
            omega
          rw [hr]
          obtain ⟨b1, hb1⟩ : ∃ x, decide (k * big < V) = x := ⟨_, rfl⟩
          obtain ⟨b2, hb2⟩ : ∃ x, decide (V < k * big) = x := ⟨_, rfl⟩
          rw [hb1, hb2] at HA
          rw [hb2]
          have w1_ : IntKind.u64.wrap n = (kk : Int) := by
            have : IntKind.u64.wrap n = n % 18446744073709551616 := by rfl
            omega
          have w2_ : IntKind.u64.wrap (-(kk : Int)) = (k : Int) := by
            have : IntKind.u64.wrap (-(kk : Int)) = (-(kk : Int)) % 18446744073709551616 := by rfl
            omega
          clear hr hb1 hb2 hzp p4 p2 hml hXl hXg hbp hBp hn hV hVp HAG hn0 hk hkk
          go_enter Try.func21, Try.ntmps21
          go_wp2_with fail
          with_reducible refine (HP.out _).mono ?_
          rintro e w1 ⟨rfl, rfl⟩
          go_wp2_with fail
          with_reducible refine (HA.out _).mono ?_
          rintro e w1 ⟨rfl, rfl⟩
          go_wp2_with fail
          go_ret
          exact ⟨rfl, rfl⟩
        · have dn : decide (n < 0) = false := decide_eq_false hn0
          have h1 : 0 ≤ n * (big : Int) := by
            rcases Int.lt_or_le (n * (big : Int)) 0 with h | h
            · exact absurd ((hzp n).1 h) hn0
            · exact h
          rw [decide_eq_false (by omega : ¬ n * (big : Int) < -(V : Int))]
          clear h1 hzp p4 p2 hml hXl hXg hbp hBp hn hV hVp HAG
          go_enter Try.func21, Try.ntmps21
          go_wp2_with fail
          with_reducible refine (HP.out _).mono ?_
          rintro e w1 ⟨rfl, rfl⟩
          go_wp2_with fail
          go_ret
          exact ⟨rfl, rfl⟩
end Go.Proofs.Ytpbdlmkcomnjbaa

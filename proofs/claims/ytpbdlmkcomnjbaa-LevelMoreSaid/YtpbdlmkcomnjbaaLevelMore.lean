/- What this text proves: the statement LevelMore: for every part, total and two levels the law returns true and leaves its arguments as they were. No condition. -/
import Derived.Test.YtpbdlmkcomnjbaaRows
import Derived.Test.YtpbdlmkcomnjbaaOpenF
import Derived.Test.YtpbdlmkcomnjbaaLevJ
import Derived.ProofKit
import Derived.OpenShut
import Derived.ChangeOld
namespace Go.Proofs.Ytpbdlmkcomnjbaa.levelMore
open Go.ChangeShapes Go.WideShapes Go.ChangeAt Go.RowKit
set_option linter.unusedVariables false
set_option linter.unusedSimpArgs false

attribute [local irreducible] big
theorem exc_ok {p T b : Nat} (hb : 0 < b ∧ b ≤ one64) (hT : T ≤ 1125899906842624) : excF (p : Int) (T : Int) b = (excB p T b, 0) := by
  unfold excF
  rw [if_pos hb, if_neg (by omega), Int.toNat_natCast, Int.toNat_natCast]
theorem exc_cases (part total : Int) (b : Nat) : (excF part total b).2 ≠ 0 ∧ (excF part total b).1 = false ∨ (0 < b ∧ b ≤ one64) ∧ 0 ≤ part ∧ 0 ≤ total ∧ total ≤ 1125899906842624 := by
  unfold excF
  by_cases h : 0 < b ∧ b ≤ one64
  · rw [if_pos h]
    by_cases h2 : part < 0 ∨ total < 0 ∨ 1125899906842624 < total
    · rw [if_pos h2]; exact .inl ⟨by decide, rfl⟩
    · exact .inr ⟨h, by omega, by omega, by omega⟩
  · rw [if_neg h]; exact .inl ⟨by decide, rfl⟩
theorem exc_code (part total : Int) (b : Nat) : (excF part total b).2 = 0 ∨ (excF part total b).2 = 1 ∨ (excF part total b).2 = 11 := by
  unfold excF
  split
  · split
    · exact .inr (.inl rfl)
    · exact .inl rfl
  · exact .inr (.inr rfl)
theorem exc_part {p T b : Nat} (h : excB p T b = true) : excB (p + 1) T b = true := by
  unfold excB at *
  rw [decide_eq_true_eq] at *
  rw [Nat.add_mul]
  omega
theorem exc_total {p T b : Nat} (h : excB p T b = true) : excB p (T - 1) b = true := by
  unfold excB at *
  rw [decide_eq_true_eq] at *
  exact Nat.lt_of_le_of_lt (Nat.mul_le_mul_right _ (Nat.sub_le _ _)) h
theorem exc_level {p T b c : Nat} (h : excB p T b = true) (hc : c ≤ b) : excB p T c = true := by
  unfold excB at *
  rw [decide_eq_true_eq] at *
  exact Nat.lt_of_le_of_lt (Nat.mul_le_mul_left _ (val_le hc)) h
theorem val_one : val one64 = big := by
  have h1 : mg one64 = 2 ^ 52 := by decide
  have h2 : 52 + pl one64 = tho := by decide
  unfold val big
  rw [h1, pow_two_add, h2]
theorem place_lev {b : Nat} (h : b ≤ one64) : place b = b := by
  have o1 : one64 = 4607182418800017408 := rfl
  rw [(place_nn (nan_pos (by omega))).2, sg_pos (by omega), rg_pos (by omega)]
  rfl
theorem exc_whole {T b : Nat} (hb : b ≤ one64) : excB T T b = (decide (0 < (T : Int)) && decide (cmpI (place b) (place 4607182418800017408) < 0)) := by
  have o1 : one64 = 4607182418800017408 := rfl
  rw [place_lev hb, place_lev (b := 4607182418800017408) (by omega)]
  unfold excB
  rw [← val_one]
  by_cases h0 : T = 0
  · subst h0; simp
  · rw [decide_eq_true (by omega : (0 : Int) < (T : Int)), Bool.true_and]
    have h1 : T * val b < T * val one64 ↔ b < one64 := by
      rw [Nat.mul_lt_mul_left (by omega : 0 < T)]
      constructor
      · intro h
        rcases Nat.lt_or_ge b one64 with h2 | h2
        · exact h2
        · have := val_le h2; omega
      · exact val_lt
    by_cases h : b < one64
    · rw [decide_eq_true (h1.2 h)]
      refine (decide_eq_true ?_).symm
      unfold cmpI
      rw [if_pos (by omega)]
      decide
    · rw [decide_eq_false (fun x => h (h1.1 x))]
      refine (decide_eq_false ?_).symm
      unfold cmpI
      rw [if_neg (by omega), if_neg (by omega)]
      decide
set_option maxRecDepth 100000 in
set_option maxHeartbeats 4000000 in
theorem walk (part : Int) (hp : -9223372036854775808 ≤ part ∧ part ≤ 9223372036854775807) (total : Int) (ht : -9223372036854775808 ≤ total ∧ total ≤ 9223372036854775807) (f g : Nat) (hf : f < 18446744073709551616) (hg : g < 18446744073709551616) (w : World) : Calls Try.prog 5 #[.int .i64 part, .int .i64 total, .agg #[.float .f64 f, .float .f64 g]] w fun e w' => e = .returned (.bool true) ∧ Below w.heap.size w w' := by
  have HE := Lib.hid (fun W => exceeds_any part total f hf hp.2 W)
  have LB : Hid (Below w.heap.size w (w.alloc (.cells #[.float .f64 f, .float .f64 g] 32))) := Lib.hid (by (first | assumption | (repeat (first | exact Below.refl _ _ | assumption | apply Below.drew | apply below_drewN | (refine Below.setCell ?_ (by (try simp) <;> omega) _) | (refine Below.alloc ?_ (by (try simp) <;> omega) _)))))
  have hlen : (w.alloc (.cells #[.float .f64 f, .float .f64 g] 32)).heap.size = w.heap.size + 1 := by simp
  rcases exc_cases part total f with ⟨h1, h2⟩ | ⟨h1, h2, h3, h4⟩
  · rw [h2] at HE
    obtain ⟨y, hy⟩ : ∃ y, (excF part total f).2 = y := ⟨_, rfl⟩
    rw [hy] at HE h1
    have hy0 : (!(y == 0)) = true := by simpa using h1
    clear hy h2 hlen
    go_enter Try.func5, Try.ntmps5
    go_wp2_with fail
    with_reducible refine (HE.out _).mono ?_
    rintro e v1 ⟨rfl, hbel⟩
    have HBL1 := Lib.hid hbel
    clear hbel
    go_wp2_with fail
    with_reducible refine (alive_any _).mono ?_
    rintro e v2 ⟨rfl, hbel⟩
    have HBL2 := Lib.hid hbel
    clear hbel
    go_wp2_with fail
    go_ret
    exact ⟨rfl, (LB.out.trans (HBL1.out.mono LB.out.size)).trans (HBL2.out.mono (Nat.le_trans LB.out.size HBL1.out.size))⟩
  · obtain ⟨p, rfl⟩ : ∃ p : Nat, part = p := ⟨part.toNat, by omega⟩
    obtain ⟨T, rfl⟩ : ∃ T : Nat, total = T := ⟨total.toNat, by omega⟩
    have hT : T ≤ 1125899906842624 := by omega
    have o1 : one64 = 4607182418800017408 := rfl
    rw [exc_ok h1 hT] at HE
    have HW := Lib.hid (fun W => exceeds_any (T : Int) (T : Int) f hf (by omega) W)
    rw [exc_ok h1 hT, exc_whole h1.2] at HW
    have HO1 := Lib.hid (order_any f 4607182418800017408 hf (by decide))
    obtain ⟨o, ho⟩ : ∃ o, cmpI (place f) (place 4607182418800017408) = o := ⟨_, rfl⟩
    rw [ho] at HW HO1
    have HG := Lib.hid (fun W => exceeds_any (p : Int) (T : Int) g hg hp.2 W)
    have HO2 := Lib.hid (order_any g f hg hf)
    have HP := Lib.hid (fun (h : p < 1125899906842624) W => exceeds_any ((p + 1 : Nat) : Int) (T : Int) f hf (by omega) W)
    simp only [exc_ok h1 hT] at HP
    have HT := Lib.hid (fun (h : 0 < T) W => exceeds_any (p : Int) ((T - 1 : Nat) : Int) f hf hp.2 W)
    rw [exc_ok h1 (by omega : T - 1 ≤ 1125899906842624)] at HT
    have hpn : p ≤ 9223372036854775807 := by omega
    have hgc : (excF (p : Int) (T : Int) g).2 ≠ 0 ∨ (cmpI (place g) (place f) = 1 ∧ (excF (p : Int) (T : Int) g).2 = 0) ∨ ((cmpI (place g) (place f) = 0 ∨ cmpI (place g) (place f) = -1) ∧ (excF (p : Int) (T : Int) g).2 = 0 ∧ (excB p T f = true → (excF (p : Int) (T : Int) g).1 = true)) := by
      by_cases hgl : 0 < g ∧ g ≤ one64
      · rw [exc_ok hgl hT, place_lev hgl.2, place_lev h1.2]
        by_cases hgf : g ≤ f
        · refine .inr (.inr ⟨?_, rfl, fun h => exc_level h hgf⟩)
          unfold cmpI
          rcases Nat.lt_or_ge g f with h | h
          · exact .inr (if_pos (by omega))
          · exact .inl (by rw [if_neg (by omega), if_neg (by omega)])
        · refine .inr (.inl ⟨?_, rfl⟩)
          unfold cmpI
          rw [if_neg (by omega), if_pos (by omega)]
      · refine .inl ?_
        unfold excF
        rw [if_neg hgl]
        decide
    have hTP : excB p T f = true → excB (p + 1) T f = true := exc_part
    have hTT : excB p T f = true → excB p (T - 1) f = true := exc_total
    obtain ⟨a, ha⟩ : ∃ a, excB p T f = a := ⟨_, rfl⟩
    obtain ⟨bp, hbp⟩ : ∃ a, excB (p + 1) T f = a := ⟨_, rfl⟩
    obtain ⟨bt, hbt⟩ : ∃ a, excB p (T - 1) f = a := ⟨_, rfl⟩
    obtain ⟨⟨bg, eg⟩, hbg⟩ : ∃ a, excF (p : Int) (T : Int) g = a := ⟨_, rfl⟩
    obtain ⟨og, hog⟩ : ∃ o, cmpI (place g) (place f) = o := ⟨_, rfl⟩
    rw [ha] at HE hTP hTT hgc
    rw [hbp] at HP hTP
    rw [hbt] at HT hTT
    rw [hbg] at HG hgc
    rw [hog] at HO2 hgc
    simp only at HG hgc HE HW HP HT
    have hTi : (T : Int) ≤ 1125899906842624 := by omega
    clear ha hbp hbt hbg hog ho h1 h2 h3 h4 o1 hp ht
    cases a with
    | true =>
      have e1 := hTP rfl
      have e2 := hTT rfl
      subst e1 e2
      clear hTP hTT
      have hgc2 : (eg == 0) = false ∨ (og = 1 ∧ eg = 0) ∨ ((og = 0 ∨ og = -1) ∧ eg = 0 ∧ (bg = true))  := by
        rcases hgc with h | h | h
        · exact .inl (beq_eq_false_iff_ne.2 h)
        · exact .inr (.inl h)
        · exact .inr (.inr ⟨h.1, h.2.1, h.2.2 rfl⟩)
      clear hgc
      rcases Nat.lt_or_ge p 1125899906842624 with hP | hP
      · have HP2 := Lib.hid (HP.out hP)
        have hPd : decide ((p : Int) < 1125899906842624) = true := decide_eq_true (by omega)
        rw [show ((p + 1 : Nat) : Int) = (p : Int) + 1 by omega] at HP2
        rcases Nat.eq_zero_or_pos T with hT0 | hT0
        · subst hT0
          have zz : ((0 : Nat) : Int) = 0 := rfl
          simp only [zz] at HE HW HG HP
          simp only [zz] at HP2
          clear zz hTi hT
          rcases hgc2 with hy | ⟨rfl, rfl⟩ | ⟨hoo, rfl, hb⟩
          · skip
            go_enter Try.func5, Try.ntmps5
            go_wp2_with fail
            with_reducible refine (HE.out _).mono ?_
            rintro e v1 ⟨rfl, hbel⟩
            have HBL1 := Lib.hid hbel
            clear hbel
            go_wp2_with fail
            with_reducible refine (HP2.out _).mono ?_
            rintro e v2 ⟨rfl, hbel⟩
            have HBL2 := Lib.hid hbel
            clear hbel
            go_wp2_with fail
            with_reducible refine (HG.out _).mono ?_
            rintro e v3 ⟨rfl, hbel⟩
            have HBL3 := Lib.hid hbel
            clear hbel
            go_wp2_with fail
            with_reducible refine (HW.out _).mono ?_
            rintro e v4 ⟨rfl, hbel⟩
            have HBL4 := Lib.hid hbel
            clear hbel
            go_wp2_with fail
            with_reducible refine (alive_any _).mono ?_
            rintro e v5 ⟨rfl, hbel⟩
            have HBL5 := Lib.hid hbel
            clear hbel
            go_wp2_with fail
            go_ret
            exact ⟨rfl, (((((LB.out.trans (HBL1.out.mono (LB.out.size))).trans (HBL2.out.mono (Nat.le_trans (LB.out.size) HBL1.out.size))).trans (HBL3.out.mono (Nat.le_trans (Nat.le_trans (LB.out.size) HBL1.out.size) HBL2.out.size))).trans (HBL4.out.mono (Nat.le_trans (Nat.le_trans (Nat.le_trans (LB.out.size) HBL1.out.size) HBL2.out.size) HBL3.out.size))).trans (HBL5.out.mono (Nat.le_trans (Nat.le_trans (Nat.le_trans (Nat.le_trans (LB.out.size) HBL1.out.size) HBL2.out.size) HBL3.out.size) HBL4.out.size)))⟩
          · skip
            go_enter Try.func5, Try.ntmps5
            go_wp2_with fail
            with_reducible refine (HE.out _).mono ?_
            rintro e v1 ⟨rfl, hbel⟩
            have HBL1 := Lib.hid hbel
            clear hbel
            go_wp2_with fail
            with_reducible refine (HP2.out _).mono ?_
            rintro e v2 ⟨rfl, hbel⟩
            have HBL2 := Lib.hid hbel
            clear hbel
            go_wp2_with fail
            with_reducible refine (HG.out _).mono ?_
            rintro e v3 ⟨rfl, hbel⟩
            have HBL3 := Lib.hid hbel
            clear hbel
            go_wp2_with fail
            with_reducible refine (HO2.out _).mono ?_
            rintro e w1 ⟨rfl, rfl⟩
            go_wp2_with fail
            with_reducible refine (HW.out _).mono ?_
            rintro e v4 ⟨rfl, hbel⟩
            have HBL4 := Lib.hid hbel
            clear hbel
            go_wp2_with fail
            with_reducible refine (alive_any _).mono ?_
            rintro e v5 ⟨rfl, hbel⟩
            have HBL5 := Lib.hid hbel
            clear hbel
            go_wp2_with fail
            go_ret
            exact ⟨rfl, (((((LB.out.trans (HBL1.out.mono (LB.out.size))).trans (HBL2.out.mono (Nat.le_trans (LB.out.size) HBL1.out.size))).trans (HBL3.out.mono (Nat.le_trans (Nat.le_trans (LB.out.size) HBL1.out.size) HBL2.out.size))).trans (HBL4.out.mono (Nat.le_trans (Nat.le_trans (Nat.le_trans (LB.out.size) HBL1.out.size) HBL2.out.size) HBL3.out.size))).trans (HBL5.out.mono (Nat.le_trans (Nat.le_trans (Nat.le_trans (Nat.le_trans (LB.out.size) HBL1.out.size) HBL2.out.size) HBL3.out.size) HBL4.out.size)))⟩
          · rcases hoo with rfl | rfl
            · skip
              subst hb
              go_enter Try.func5, Try.ntmps5
              go_wp2_with fail
              with_reducible refine (HE.out _).mono ?_
              rintro e v1 ⟨rfl, hbel⟩
              have HBL1 := Lib.hid hbel
              clear hbel
              go_wp2_with fail
              with_reducible refine (HP2.out _).mono ?_
              rintro e v2 ⟨rfl, hbel⟩
              have HBL2 := Lib.hid hbel
              clear hbel
              go_wp2_with fail
              with_reducible refine (HG.out _).mono ?_
              rintro e v3 ⟨rfl, hbel⟩
              have HBL3 := Lib.hid hbel
              clear hbel
              go_wp2_with fail
              with_reducible refine (HO2.out _).mono ?_
              rintro e w1 ⟨rfl, rfl⟩
              go_wp2_with fail
              with_reducible refine (HW.out _).mono ?_
              rintro e v4 ⟨rfl, hbel⟩
              have HBL4 := Lib.hid hbel
              clear hbel
              go_wp2_with fail
              with_reducible refine (alive_any _).mono ?_
              rintro e v5 ⟨rfl, hbel⟩
              have HBL5 := Lib.hid hbel
              clear hbel
              go_wp2_with fail
              go_ret
              exact ⟨rfl, (((((LB.out.trans (HBL1.out.mono (LB.out.size))).trans (HBL2.out.mono (Nat.le_trans (LB.out.size) HBL1.out.size))).trans (HBL3.out.mono (Nat.le_trans (Nat.le_trans (LB.out.size) HBL1.out.size) HBL2.out.size))).trans (HBL4.out.mono (Nat.le_trans (Nat.le_trans (Nat.le_trans (LB.out.size) HBL1.out.size) HBL2.out.size) HBL3.out.size))).trans (HBL5.out.mono (Nat.le_trans (Nat.le_trans (Nat.le_trans (Nat.le_trans (LB.out.size) HBL1.out.size) HBL2.out.size) HBL3.out.size) HBL4.out.size)))⟩
            · skip
              subst hb
              go_enter Try.func5, Try.ntmps5
              go_wp2_with fail
              with_reducible refine (HE.out _).mono ?_
              rintro e v1 ⟨rfl, hbel⟩
              have HBL1 := Lib.hid hbel
              clear hbel
              go_wp2_with fail
              with_reducible refine (HP2.out _).mono ?_
              rintro e v2 ⟨rfl, hbel⟩
              have HBL2 := Lib.hid hbel
              clear hbel
              go_wp2_with fail
              with_reducible refine (HG.out _).mono ?_
              rintro e v3 ⟨rfl, hbel⟩
              have HBL3 := Lib.hid hbel
              clear hbel
              go_wp2_with fail
              with_reducible refine (HO2.out _).mono ?_
              rintro e w1 ⟨rfl, rfl⟩
              go_wp2_with fail
              with_reducible refine (HW.out _).mono ?_
              rintro e v4 ⟨rfl, hbel⟩
              have HBL4 := Lib.hid hbel
              clear hbel
              go_wp2_with fail
              with_reducible refine (alive_any _).mono ?_
              rintro e v5 ⟨rfl, hbel⟩
              have HBL5 := Lib.hid hbel
              clear hbel
              go_wp2_with fail
              go_ret
              exact ⟨rfl, (((((LB.out.trans (HBL1.out.mono (LB.out.size))).trans (HBL2.out.mono (Nat.le_trans (LB.out.size) HBL1.out.size))).trans (HBL3.out.mono (Nat.le_trans (Nat.le_trans (LB.out.size) HBL1.out.size) HBL2.out.size))).trans (HBL4.out.mono (Nat.le_trans (Nat.le_trans (Nat.le_trans (LB.out.size) HBL1.out.size) HBL2.out.size) HBL3.out.size))).trans (HBL5.out.mono (Nat.le_trans (Nat.le_trans (Nat.le_trans (Nat.le_trans (LB.out.size) HBL1.out.size) HBL2.out.size) HBL3.out.size) HBL4.out.size)))⟩
        · have HT2 := Lib.hid (HT.out hT0)
          have hTd : decide ((0 : Int) < (T : Int)) = true := decide_eq_true (by omega)
          rw [show ((T - 1 : Nat) : Int) = (T : Int) - 1 by omega] at HT2
          have hT1 : (1 : Int) ≤ (T : Int) := by omega
          rcases hgc2 with hy | ⟨rfl, rfl⟩ | ⟨hoo, rfl, hb⟩
          · skip
            go_enter Try.func5, Try.ntmps5
            go_wp2_with fail
            with_reducible refine (HE.out _).mono ?_
            rintro e v1 ⟨rfl, hbel⟩
            have HBL1 := Lib.hid hbel
            clear hbel
            go_wp2_with fail
            with_reducible refine (HP2.out _).mono ?_
            rintro e v2 ⟨rfl, hbel⟩
            have HBL2 := Lib.hid hbel
            clear hbel
            go_wp2_with fail
            with_reducible refine (HT2.out _).mono ?_
            rintro e v3 ⟨rfl, hbel⟩
            have HBL3 := Lib.hid hbel
            clear hbel
            go_wp2_with fail
            with_reducible refine (HG.out _).mono ?_
            rintro e v4 ⟨rfl, hbel⟩
            have HBL4 := Lib.hid hbel
            clear hbel
            go_wp2_with fail
            with_reducible refine (HW.out _).mono ?_
            rintro e v5 ⟨rfl, hbel⟩
            have HBL5 := Lib.hid hbel
            clear hbel
            go_wp2_with fail
            with_reducible refine (alive_any _).mono ?_
            rintro e v6 ⟨rfl, hbel⟩
            have HBL6 := Lib.hid hbel
            clear hbel
            go_wp2_with fail
            with_reducible refine (HO1.out _).mono ?_
            rintro e w1 ⟨rfl, rfl⟩
            go_wp2_with fail
            go_ret
            exact ⟨rfl, ((((((LB.out.trans (HBL1.out.mono (LB.out.size))).trans (HBL2.out.mono (Nat.le_trans (LB.out.size) HBL1.out.size))).trans (HBL3.out.mono (Nat.le_trans (Nat.le_trans (LB.out.size) HBL1.out.size) HBL2.out.size))).trans (HBL4.out.mono (Nat.le_trans (Nat.le_trans (Nat.le_trans (LB.out.size) HBL1.out.size) HBL2.out.size) HBL3.out.size))).trans (HBL5.out.mono (Nat.le_trans (Nat.le_trans (Nat.le_trans (Nat.le_trans (LB.out.size) HBL1.out.size) HBL2.out.size) HBL3.out.size) HBL4.out.size))).trans (HBL6.out.mono (Nat.le_trans (Nat.le_trans (Nat.le_trans (Nat.le_trans (Nat.le_trans (LB.out.size) HBL1.out.size) HBL2.out.size) HBL3.out.size) HBL4.out.size) HBL5.out.size)))⟩
          · skip
            go_enter Try.func5, Try.ntmps5
            go_wp2_with fail
            with_reducible refine (HE.out _).mono ?_
            rintro e v1 ⟨rfl, hbel⟩
            have HBL1 := Lib.hid hbel
            clear hbel
            go_wp2_with fail
            with_reducible refine (HP2.out _).mono ?_
            rintro e v2 ⟨rfl, hbel⟩
            have HBL2 := Lib.hid hbel
            clear hbel
            go_wp2_with fail
            with_reducible refine (HT2.out _).mono ?_
            rintro e v3 ⟨rfl, hbel⟩
            have HBL3 := Lib.hid hbel
            clear hbel
            go_wp2_with fail
            with_reducible refine (HG.out _).mono ?_
            rintro e v4 ⟨rfl, hbel⟩
            have HBL4 := Lib.hid hbel
            clear hbel
            go_wp2_with fail
            with_reducible refine (HO2.out _).mono ?_
            rintro e w1 ⟨rfl, rfl⟩
            go_wp2_with fail
            with_reducible refine (HW.out _).mono ?_
            rintro e v5 ⟨rfl, hbel⟩
            have HBL5 := Lib.hid hbel
            clear hbel
            go_wp2_with fail
            with_reducible refine (alive_any _).mono ?_
            rintro e v6 ⟨rfl, hbel⟩
            have HBL6 := Lib.hid hbel
            clear hbel
            go_wp2_with fail
            with_reducible refine (HO1.out _).mono ?_
            rintro e w1 ⟨rfl, rfl⟩
            go_wp2_with fail
            go_ret
            exact ⟨rfl, ((((((LB.out.trans (HBL1.out.mono (LB.out.size))).trans (HBL2.out.mono (Nat.le_trans (LB.out.size) HBL1.out.size))).trans (HBL3.out.mono (Nat.le_trans (Nat.le_trans (LB.out.size) HBL1.out.size) HBL2.out.size))).trans (HBL4.out.mono (Nat.le_trans (Nat.le_trans (Nat.le_trans (LB.out.size) HBL1.out.size) HBL2.out.size) HBL3.out.size))).trans (HBL5.out.mono (Nat.le_trans (Nat.le_trans (Nat.le_trans (Nat.le_trans (LB.out.size) HBL1.out.size) HBL2.out.size) HBL3.out.size) HBL4.out.size))).trans (HBL6.out.mono (Nat.le_trans (Nat.le_trans (Nat.le_trans (Nat.le_trans (Nat.le_trans (LB.out.size) HBL1.out.size) HBL2.out.size) HBL3.out.size) HBL4.out.size) HBL5.out.size)))⟩
          · rcases hoo with rfl | rfl
            · skip
              subst hb
              go_enter Try.func5, Try.ntmps5
              go_wp2_with fail
              with_reducible refine (HE.out _).mono ?_
              rintro e v1 ⟨rfl, hbel⟩
              have HBL1 := Lib.hid hbel
              clear hbel
              go_wp2_with fail
              with_reducible refine (HP2.out _).mono ?_
              rintro e v2 ⟨rfl, hbel⟩
              have HBL2 := Lib.hid hbel
              clear hbel
              go_wp2_with fail
              with_reducible refine (HT2.out _).mono ?_
              rintro e v3 ⟨rfl, hbel⟩
              have HBL3 := Lib.hid hbel
              clear hbel
              go_wp2_with fail
              with_reducible refine (HG.out _).mono ?_
              rintro e v4 ⟨rfl, hbel⟩
              have HBL4 := Lib.hid hbel
              clear hbel
              go_wp2_with fail
              with_reducible refine (HO2.out _).mono ?_
              rintro e w1 ⟨rfl, rfl⟩
              go_wp2_with fail
              with_reducible refine (HW.out _).mono ?_
              rintro e v5 ⟨rfl, hbel⟩
              have HBL5 := Lib.hid hbel
              clear hbel
              go_wp2_with fail
              with_reducible refine (alive_any _).mono ?_
              rintro e v6 ⟨rfl, hbel⟩
              have HBL6 := Lib.hid hbel
              clear hbel
              go_wp2_with fail
              with_reducible refine (HO1.out _).mono ?_
              rintro e w1 ⟨rfl, rfl⟩
              go_wp2_with fail
              go_ret
              exact ⟨rfl, ((((((LB.out.trans (HBL1.out.mono (LB.out.size))).trans (HBL2.out.mono (Nat.le_trans (LB.out.size) HBL1.out.size))).trans (HBL3.out.mono (Nat.le_trans (Nat.le_trans (LB.out.size) HBL1.out.size) HBL2.out.size))).trans (HBL4.out.mono (Nat.le_trans (Nat.le_trans (Nat.le_trans (LB.out.size) HBL1.out.size) HBL2.out.size) HBL3.out.size))).trans (HBL5.out.mono (Nat.le_trans (Nat.le_trans (Nat.le_trans (Nat.le_trans (LB.out.size) HBL1.out.size) HBL2.out.size) HBL3.out.size) HBL4.out.size))).trans (HBL6.out.mono (Nat.le_trans (Nat.le_trans (Nat.le_trans (Nat.le_trans (Nat.le_trans (LB.out.size) HBL1.out.size) HBL2.out.size) HBL3.out.size) HBL4.out.size) HBL5.out.size)))⟩
            · skip
              subst hb
              go_enter Try.func5, Try.ntmps5
              go_wp2_with fail
              with_reducible refine (HE.out _).mono ?_
              rintro e v1 ⟨rfl, hbel⟩
              have HBL1 := Lib.hid hbel
              clear hbel
              go_wp2_with fail
              with_reducible refine (HP2.out _).mono ?_
              rintro e v2 ⟨rfl, hbel⟩
              have HBL2 := Lib.hid hbel
              clear hbel
              go_wp2_with fail
              with_reducible refine (HT2.out _).mono ?_
              rintro e v3 ⟨rfl, hbel⟩
              have HBL3 := Lib.hid hbel
              clear hbel
              go_wp2_with fail
              with_reducible refine (HG.out _).mono ?_
              rintro e v4 ⟨rfl, hbel⟩
              have HBL4 := Lib.hid hbel
              clear hbel
              go_wp2_with fail
              with_reducible refine (HO2.out _).mono ?_
              rintro e w1 ⟨rfl, rfl⟩
              go_wp2_with fail
              with_reducible refine (HW.out _).mono ?_
              rintro e v5 ⟨rfl, hbel⟩
              have HBL5 := Lib.hid hbel
              clear hbel
              go_wp2_with fail
              with_reducible refine (alive_any _).mono ?_
              rintro e v6 ⟨rfl, hbel⟩
              have HBL6 := Lib.hid hbel
              clear hbel
              go_wp2_with fail
              with_reducible refine (HO1.out _).mono ?_
              rintro e w1 ⟨rfl, rfl⟩
              go_wp2_with fail
              go_ret
              exact ⟨rfl, ((((((LB.out.trans (HBL1.out.mono (LB.out.size))).trans (HBL2.out.mono (Nat.le_trans (LB.out.size) HBL1.out.size))).trans (HBL3.out.mono (Nat.le_trans (Nat.le_trans (LB.out.size) HBL1.out.size) HBL2.out.size))).trans (HBL4.out.mono (Nat.le_trans (Nat.le_trans (Nat.le_trans (LB.out.size) HBL1.out.size) HBL2.out.size) HBL3.out.size))).trans (HBL5.out.mono (Nat.le_trans (Nat.le_trans (Nat.le_trans (Nat.le_trans (LB.out.size) HBL1.out.size) HBL2.out.size) HBL3.out.size) HBL4.out.size))).trans (HBL6.out.mono (Nat.le_trans (Nat.le_trans (Nat.le_trans (Nat.le_trans (Nat.le_trans (LB.out.size) HBL1.out.size) HBL2.out.size) HBL3.out.size) HBL4.out.size) HBL5.out.size)))⟩
      · have hPd : decide ((p : Int) < 1125899906842624) = false := decide_eq_false (by omega)
        rcases Nat.eq_zero_or_pos T with hT0 | hT0
        · subst hT0
          have zz : ((0 : Nat) : Int) = 0 := rfl
          simp only [zz] at HE HW HG HP
          clear zz hTi hT
          rcases hgc2 with hy | ⟨rfl, rfl⟩ | ⟨hoo, rfl, hb⟩
          · skip
            go_enter Try.func5, Try.ntmps5
            go_wp2_with fail
            with_reducible refine (HE.out _).mono ?_
            rintro e v1 ⟨rfl, hbel⟩
            have HBL1 := Lib.hid hbel
            clear hbel
            go_wp2_with fail
            with_reducible refine (HG.out _).mono ?_
            rintro e v2 ⟨rfl, hbel⟩
            have HBL2 := Lib.hid hbel
            clear hbel
            go_wp2_with fail
            with_reducible refine (HW.out _).mono ?_
            rintro e v3 ⟨rfl, hbel⟩
            have HBL3 := Lib.hid hbel
            clear hbel
            go_wp2_with fail
            with_reducible refine (alive_any _).mono ?_
            rintro e v4 ⟨rfl, hbel⟩
            have HBL4 := Lib.hid hbel
            clear hbel
            go_wp2_with fail
            go_ret
            exact ⟨rfl, ((((LB.out.trans (HBL1.out.mono (LB.out.size))).trans (HBL2.out.mono (Nat.le_trans (LB.out.size) HBL1.out.size))).trans (HBL3.out.mono (Nat.le_trans (Nat.le_trans (LB.out.size) HBL1.out.size) HBL2.out.size))).trans (HBL4.out.mono (Nat.le_trans (Nat.le_trans (Nat.le_trans (LB.out.size) HBL1.out.size) HBL2.out.size) HBL3.out.size)))⟩
          · skip
            go_enter Try.func5, Try.ntmps5
            go_wp2_with fail
            with_reducible refine (HE.out _).mono ?_
            rintro e v1 ⟨rfl, hbel⟩
            have HBL1 := Lib.hid hbel
            clear hbel
            go_wp2_with fail
            with_reducible refine (HG.out _).mono ?_
            rintro e v2 ⟨rfl, hbel⟩
            have HBL2 := Lib.hid hbel
            clear hbel
            go_wp2_with fail
            with_reducible refine (HO2.out _).mono ?_
            rintro e w1 ⟨rfl, rfl⟩
            go_wp2_with fail
            with_reducible refine (HW.out _).mono ?_
            rintro e v3 ⟨rfl, hbel⟩
            have HBL3 := Lib.hid hbel
            clear hbel
            go_wp2_with fail
            with_reducible refine (alive_any _).mono ?_
            rintro e v4 ⟨rfl, hbel⟩
            have HBL4 := Lib.hid hbel
            clear hbel
            go_wp2_with fail
            go_ret
            exact ⟨rfl, ((((LB.out.trans (HBL1.out.mono (LB.out.size))).trans (HBL2.out.mono (Nat.le_trans (LB.out.size) HBL1.out.size))).trans (HBL3.out.mono (Nat.le_trans (Nat.le_trans (LB.out.size) HBL1.out.size) HBL2.out.size))).trans (HBL4.out.mono (Nat.le_trans (Nat.le_trans (Nat.le_trans (LB.out.size) HBL1.out.size) HBL2.out.size) HBL3.out.size)))⟩
          · rcases hoo with rfl | rfl
            · skip
              subst hb
              go_enter Try.func5, Try.ntmps5
              go_wp2_with fail
              with_reducible refine (HE.out _).mono ?_
              rintro e v1 ⟨rfl, hbel⟩
              have HBL1 := Lib.hid hbel
              clear hbel
              go_wp2_with fail
              with_reducible refine (HG.out _).mono ?_
              rintro e v2 ⟨rfl, hbel⟩
              have HBL2 := Lib.hid hbel
              clear hbel
              go_wp2_with fail
              with_reducible refine (HO2.out _).mono ?_
              rintro e w1 ⟨rfl, rfl⟩
              go_wp2_with fail
              with_reducible refine (HW.out _).mono ?_
              rintro e v3 ⟨rfl, hbel⟩
              have HBL3 := Lib.hid hbel
              clear hbel
              go_wp2_with fail
              with_reducible refine (alive_any _).mono ?_
              rintro e v4 ⟨rfl, hbel⟩
              have HBL4 := Lib.hid hbel
              clear hbel
              go_wp2_with fail
              go_ret
              exact ⟨rfl, ((((LB.out.trans (HBL1.out.mono (LB.out.size))).trans (HBL2.out.mono (Nat.le_trans (LB.out.size) HBL1.out.size))).trans (HBL3.out.mono (Nat.le_trans (Nat.le_trans (LB.out.size) HBL1.out.size) HBL2.out.size))).trans (HBL4.out.mono (Nat.le_trans (Nat.le_trans (Nat.le_trans (LB.out.size) HBL1.out.size) HBL2.out.size) HBL3.out.size)))⟩
            · skip
              subst hb
              go_enter Try.func5, Try.ntmps5
              go_wp2_with fail
              with_reducible refine (HE.out _).mono ?_
              rintro e v1 ⟨rfl, hbel⟩
              have HBL1 := Lib.hid hbel
              clear hbel
              go_wp2_with fail
              with_reducible refine (HG.out _).mono ?_
              rintro e v2 ⟨rfl, hbel⟩
              have HBL2 := Lib.hid hbel
              clear hbel
              go_wp2_with fail
              with_reducible refine (HO2.out _).mono ?_
              rintro e w1 ⟨rfl, rfl⟩
              go_wp2_with fail
              with_reducible refine (HW.out _).mono ?_
              rintro e v3 ⟨rfl, hbel⟩
              have HBL3 := Lib.hid hbel
              clear hbel
              go_wp2_with fail
              with_reducible refine (alive_any _).mono ?_
              rintro e v4 ⟨rfl, hbel⟩
              have HBL4 := Lib.hid hbel
              clear hbel
              go_wp2_with fail
              go_ret
              exact ⟨rfl, ((((LB.out.trans (HBL1.out.mono (LB.out.size))).trans (HBL2.out.mono (Nat.le_trans (LB.out.size) HBL1.out.size))).trans (HBL3.out.mono (Nat.le_trans (Nat.le_trans (LB.out.size) HBL1.out.size) HBL2.out.size))).trans (HBL4.out.mono (Nat.le_trans (Nat.le_trans (Nat.le_trans (LB.out.size) HBL1.out.size) HBL2.out.size) HBL3.out.size)))⟩
        · have HT2 := Lib.hid (HT.out hT0)
          have hTd : decide ((0 : Int) < (T : Int)) = true := decide_eq_true (by omega)
          rw [show ((T - 1 : Nat) : Int) = (T : Int) - 1 by omega] at HT2
          have hT1 : (1 : Int) ≤ (T : Int) := by omega
          rcases hgc2 with hy | ⟨rfl, rfl⟩ | ⟨hoo, rfl, hb⟩
          · skip
            go_enter Try.func5, Try.ntmps5
            go_wp2_with fail
            with_reducible refine (HE.out _).mono ?_
            rintro e v1 ⟨rfl, hbel⟩
            have HBL1 := Lib.hid hbel
            clear hbel
            go_wp2_with fail
            with_reducible refine (HT2.out _).mono ?_
            rintro e v2 ⟨rfl, hbel⟩
            have HBL2 := Lib.hid hbel
            clear hbel
            go_wp2_with fail
            with_reducible refine (HG.out _).mono ?_
            rintro e v3 ⟨rfl, hbel⟩
            have HBL3 := Lib.hid hbel
            clear hbel
            go_wp2_with fail
            with_reducible refine (HW.out _).mono ?_
            rintro e v4 ⟨rfl, hbel⟩
            have HBL4 := Lib.hid hbel
            clear hbel
            go_wp2_with fail
            with_reducible refine (alive_any _).mono ?_
            rintro e v5 ⟨rfl, hbel⟩
            have HBL5 := Lib.hid hbel
            clear hbel
            go_wp2_with fail
            with_reducible refine (HO1.out _).mono ?_
            rintro e w1 ⟨rfl, rfl⟩
            go_wp2_with fail
            go_ret
            exact ⟨rfl, (((((LB.out.trans (HBL1.out.mono (LB.out.size))).trans (HBL2.out.mono (Nat.le_trans (LB.out.size) HBL1.out.size))).trans (HBL3.out.mono (Nat.le_trans (Nat.le_trans (LB.out.size) HBL1.out.size) HBL2.out.size))).trans (HBL4.out.mono (Nat.le_trans (Nat.le_trans (Nat.le_trans (LB.out.size) HBL1.out.size) HBL2.out.size) HBL3.out.size))).trans (HBL5.out.mono (Nat.le_trans (Nat.le_trans (Nat.le_trans (Nat.le_trans (LB.out.size) HBL1.out.size) HBL2.out.size) HBL3.out.size) HBL4.out.size)))⟩
          · skip
            go_enter Try.func5, Try.ntmps5
            go_wp2_with fail
            with_reducible refine (HE.out _).mono ?_
            rintro e v1 ⟨rfl, hbel⟩
            have HBL1 := Lib.hid hbel
            clear hbel
            go_wp2_with fail
            with_reducible refine (HT2.out _).mono ?_
            rintro e v2 ⟨rfl, hbel⟩
            have HBL2 := Lib.hid hbel
            clear hbel
            go_wp2_with fail
            with_reducible refine (HG.out _).mono ?_
            rintro e v3 ⟨rfl, hbel⟩
            have HBL3 := Lib.hid hbel
            clear hbel
            go_wp2_with fail
            with_reducible refine (HO2.out _).mono ?_
            rintro e w1 ⟨rfl, rfl⟩
            go_wp2_with fail
            with_reducible refine (HW.out _).mono ?_
            rintro e v4 ⟨rfl, hbel⟩
            have HBL4 := Lib.hid hbel
            clear hbel
            go_wp2_with fail
            with_reducible refine (alive_any _).mono ?_
            rintro e v5 ⟨rfl, hbel⟩
            have HBL5 := Lib.hid hbel
            clear hbel
            go_wp2_with fail
            with_reducible refine (HO1.out _).mono ?_
            rintro e w1 ⟨rfl, rfl⟩
            go_wp2_with fail
            go_ret
            exact ⟨rfl, (((((LB.out.trans (HBL1.out.mono (LB.out.size))).trans (HBL2.out.mono (Nat.le_trans (LB.out.size) HBL1.out.size))).trans (HBL3.out.mono (Nat.le_trans (Nat.le_trans (LB.out.size) HBL1.out.size) HBL2.out.size))).trans (HBL4.out.mono (Nat.le_trans (Nat.le_trans (Nat.le_trans (LB.out.size) HBL1.out.size) HBL2.out.size) HBL3.out.size))).trans (HBL5.out.mono (Nat.le_trans (Nat.le_trans (Nat.le_trans (Nat.le_trans (LB.out.size) HBL1.out.size) HBL2.out.size) HBL3.out.size) HBL4.out.size)))⟩
          · rcases hoo with rfl | rfl
            · skip
              subst hb
              go_enter Try.func5, Try.ntmps5
              go_wp2_with fail
              with_reducible refine (HE.out _).mono ?_
              rintro e v1 ⟨rfl, hbel⟩
              have HBL1 := Lib.hid hbel
              clear hbel
              go_wp2_with fail
              with_reducible refine (HT2.out _).mono ?_
              rintro e v2 ⟨rfl, hbel⟩
              have HBL2 := Lib.hid hbel
              clear hbel
              go_wp2_with fail
              with_reducible refine (HG.out _).mono ?_
              rintro e v3 ⟨rfl, hbel⟩
              have HBL3 := Lib.hid hbel
              clear hbel
              go_wp2_with fail
              with_reducible refine (HO2.out _).mono ?_
              rintro e w1 ⟨rfl, rfl⟩
              go_wp2_with fail
              with_reducible refine (HW.out _).mono ?_
              rintro e v4 ⟨rfl, hbel⟩
              have HBL4 := Lib.hid hbel
              clear hbel
              go_wp2_with fail
              with_reducible refine (alive_any _).mono ?_
              rintro e v5 ⟨rfl, hbel⟩
              have HBL5 := Lib.hid hbel
              clear hbel
              go_wp2_with fail
              with_reducible refine (HO1.out _).mono ?_
              rintro e w1 ⟨rfl, rfl⟩
              go_wp2_with fail
              go_ret
              exact ⟨rfl, (((((LB.out.trans (HBL1.out.mono (LB.out.size))).trans (HBL2.out.mono (Nat.le_trans (LB.out.size) HBL1.out.size))).trans (HBL3.out.mono (Nat.le_trans (Nat.le_trans (LB.out.size) HBL1.out.size) HBL2.out.size))).trans (HBL4.out.mono (Nat.le_trans (Nat.le_trans (Nat.le_trans (LB.out.size) HBL1.out.size) HBL2.out.size) HBL3.out.size))).trans (HBL5.out.mono (Nat.le_trans (Nat.le_trans (Nat.le_trans (Nat.le_trans (LB.out.size) HBL1.out.size) HBL2.out.size) HBL3.out.size) HBL4.out.size)))⟩
            · skip
              subst hb
              go_enter Try.func5, Try.ntmps5
              go_wp2_with fail
              with_reducible refine (HE.out _).mono ?_
              rintro e v1 ⟨rfl, hbel⟩
              have HBL1 := Lib.hid hbel
              clear hbel
              go_wp2_with fail
              with_reducible refine (HT2.out _).mono ?_
              rintro e v2 ⟨rfl, hbel⟩
              have HBL2 := Lib.hid hbel
              clear hbel
              go_wp2_with fail
              with_reducible refine (HG.out _).mono ?_
              rintro e v3 ⟨rfl, hbel⟩
              have HBL3 := Lib.hid hbel
              clear hbel
              go_wp2_with fail
              with_reducible refine (HO2.out _).mono ?_
              rintro e w1 ⟨rfl, rfl⟩
              go_wp2_with fail
              with_reducible refine (HW.out _).mono ?_
              rintro e v4 ⟨rfl, hbel⟩
              have HBL4 := Lib.hid hbel
              clear hbel
              go_wp2_with fail
              with_reducible refine (alive_any _).mono ?_
              rintro e v5 ⟨rfl, hbel⟩
              have HBL5 := Lib.hid hbel
              clear hbel
              go_wp2_with fail
              with_reducible refine (HO1.out _).mono ?_
              rintro e w1 ⟨rfl, rfl⟩
              go_wp2_with fail
              go_ret
              exact ⟨rfl, (((((LB.out.trans (HBL1.out.mono (LB.out.size))).trans (HBL2.out.mono (Nat.le_trans (LB.out.size) HBL1.out.size))).trans (HBL3.out.mono (Nat.le_trans (Nat.le_trans (LB.out.size) HBL1.out.size) HBL2.out.size))).trans (HBL4.out.mono (Nat.le_trans (Nat.le_trans (Nat.le_trans (LB.out.size) HBL1.out.size) HBL2.out.size) HBL3.out.size))).trans (HBL5.out.mono (Nat.le_trans (Nat.le_trans (Nat.le_trans (Nat.le_trans (LB.out.size) HBL1.out.size) HBL2.out.size) HBL3.out.size) HBL4.out.size)))⟩
    | false =>
      clear hTP hTT
      have hgc2 : (eg == 0) = false ∨ (og = 1 ∧ eg = 0) ∨ ((og = 0 ∨ og = -1) ∧ eg = 0 ∧ (True))  := by
        rcases hgc with h | h | h
        · exact .inl (beq_eq_false_iff_ne.2 h)
        · exact .inr (.inl h)
        · exact .inr (.inr ⟨h.1, h.2.1, trivial⟩)
      clear hgc
      rcases Nat.lt_or_ge p 1125899906842624 with hP | hP
      · have HP2 := Lib.hid (HP.out hP)
        have hPd : decide ((p : Int) < 1125899906842624) = true := decide_eq_true (by omega)
        rw [show ((p + 1 : Nat) : Int) = (p : Int) + 1 by omega] at HP2
        rcases Nat.eq_zero_or_pos T with hT0 | hT0
        · subst hT0
          have zz : ((0 : Nat) : Int) = 0 := rfl
          simp only [zz] at HE HW HG HP
          simp only [zz] at HP2
          clear zz hTi hT
          rcases hgc2 with hy | ⟨rfl, rfl⟩ | ⟨hoo, rfl, hb⟩
          · skip
            go_enter Try.func5, Try.ntmps5
            go_wp2_with fail
            with_reducible refine (HE.out _).mono ?_
            rintro e v1 ⟨rfl, hbel⟩
            have HBL1 := Lib.hid hbel
            clear hbel
            go_wp2_with fail
            with_reducible refine (HP2.out _).mono ?_
            rintro e v2 ⟨rfl, hbel⟩
            have HBL2 := Lib.hid hbel
            clear hbel
            go_wp2_with fail
            with_reducible refine (HG.out _).mono ?_
            rintro e v3 ⟨rfl, hbel⟩
            have HBL3 := Lib.hid hbel
            clear hbel
            go_wp2_with fail
            with_reducible refine (HW.out _).mono ?_
            rintro e v4 ⟨rfl, hbel⟩
            have HBL4 := Lib.hid hbel
            clear hbel
            go_wp2_with fail
            with_reducible refine (alive_any _).mono ?_
            rintro e v5 ⟨rfl, hbel⟩
            have HBL5 := Lib.hid hbel
            clear hbel
            go_wp2_with fail
            go_ret
            exact ⟨rfl, (((((LB.out.trans (HBL1.out.mono (LB.out.size))).trans (HBL2.out.mono (Nat.le_trans (LB.out.size) HBL1.out.size))).trans (HBL3.out.mono (Nat.le_trans (Nat.le_trans (LB.out.size) HBL1.out.size) HBL2.out.size))).trans (HBL4.out.mono (Nat.le_trans (Nat.le_trans (Nat.le_trans (LB.out.size) HBL1.out.size) HBL2.out.size) HBL3.out.size))).trans (HBL5.out.mono (Nat.le_trans (Nat.le_trans (Nat.le_trans (Nat.le_trans (LB.out.size) HBL1.out.size) HBL2.out.size) HBL3.out.size) HBL4.out.size)))⟩
          · skip
            go_enter Try.func5, Try.ntmps5
            go_wp2_with fail
            with_reducible refine (HE.out _).mono ?_
            rintro e v1 ⟨rfl, hbel⟩
            have HBL1 := Lib.hid hbel
            clear hbel
            go_wp2_with fail
            with_reducible refine (HP2.out _).mono ?_
            rintro e v2 ⟨rfl, hbel⟩
            have HBL2 := Lib.hid hbel
            clear hbel
            go_wp2_with fail
            with_reducible refine (HG.out _).mono ?_
            rintro e v3 ⟨rfl, hbel⟩
            have HBL3 := Lib.hid hbel
            clear hbel
            go_wp2_with fail
            with_reducible refine (HO2.out _).mono ?_
            rintro e w1 ⟨rfl, rfl⟩
            go_wp2_with fail
            with_reducible refine (HW.out _).mono ?_
            rintro e v4 ⟨rfl, hbel⟩
            have HBL4 := Lib.hid hbel
            clear hbel
            go_wp2_with fail
            with_reducible refine (alive_any _).mono ?_
            rintro e v5 ⟨rfl, hbel⟩
            have HBL5 := Lib.hid hbel
            clear hbel
            go_wp2_with fail
            go_ret
            exact ⟨rfl, (((((LB.out.trans (HBL1.out.mono (LB.out.size))).trans (HBL2.out.mono (Nat.le_trans (LB.out.size) HBL1.out.size))).trans (HBL3.out.mono (Nat.le_trans (Nat.le_trans (LB.out.size) HBL1.out.size) HBL2.out.size))).trans (HBL4.out.mono (Nat.le_trans (Nat.le_trans (Nat.le_trans (LB.out.size) HBL1.out.size) HBL2.out.size) HBL3.out.size))).trans (HBL5.out.mono (Nat.le_trans (Nat.le_trans (Nat.le_trans (Nat.le_trans (LB.out.size) HBL1.out.size) HBL2.out.size) HBL3.out.size) HBL4.out.size)))⟩
          · rcases hoo with rfl | rfl
            · skip
              go_enter Try.func5, Try.ntmps5
              go_wp2_with fail
              with_reducible refine (HE.out _).mono ?_
              rintro e v1 ⟨rfl, hbel⟩
              have HBL1 := Lib.hid hbel
              clear hbel
              go_wp2_with fail
              with_reducible refine (HP2.out _).mono ?_
              rintro e v2 ⟨rfl, hbel⟩
              have HBL2 := Lib.hid hbel
              clear hbel
              go_wp2_with fail
              with_reducible refine (HG.out _).mono ?_
              rintro e v3 ⟨rfl, hbel⟩
              have HBL3 := Lib.hid hbel
              clear hbel
              go_wp2_with fail
              with_reducible refine (HO2.out _).mono ?_
              rintro e w1 ⟨rfl, rfl⟩
              go_wp2_with fail
              with_reducible refine (HW.out _).mono ?_
              rintro e v4 ⟨rfl, hbel⟩
              have HBL4 := Lib.hid hbel
              clear hbel
              go_wp2_with fail
              with_reducible refine (alive_any _).mono ?_
              rintro e v5 ⟨rfl, hbel⟩
              have HBL5 := Lib.hid hbel
              clear hbel
              go_wp2_with fail
              go_ret
              exact ⟨rfl, (((((LB.out.trans (HBL1.out.mono (LB.out.size))).trans (HBL2.out.mono (Nat.le_trans (LB.out.size) HBL1.out.size))).trans (HBL3.out.mono (Nat.le_trans (Nat.le_trans (LB.out.size) HBL1.out.size) HBL2.out.size))).trans (HBL4.out.mono (Nat.le_trans (Nat.le_trans (Nat.le_trans (LB.out.size) HBL1.out.size) HBL2.out.size) HBL3.out.size))).trans (HBL5.out.mono (Nat.le_trans (Nat.le_trans (Nat.le_trans (Nat.le_trans (LB.out.size) HBL1.out.size) HBL2.out.size) HBL3.out.size) HBL4.out.size)))⟩
            · skip
              go_enter Try.func5, Try.ntmps5
              go_wp2_with fail
              with_reducible refine (HE.out _).mono ?_
              rintro e v1 ⟨rfl, hbel⟩
              have HBL1 := Lib.hid hbel
              clear hbel
              go_wp2_with fail
              with_reducible refine (HP2.out _).mono ?_
              rintro e v2 ⟨rfl, hbel⟩
              have HBL2 := Lib.hid hbel
              clear hbel
              go_wp2_with fail
              with_reducible refine (HG.out _).mono ?_
              rintro e v3 ⟨rfl, hbel⟩
              have HBL3 := Lib.hid hbel
              clear hbel
              go_wp2_with fail
              with_reducible refine (HO2.out _).mono ?_
              rintro e w1 ⟨rfl, rfl⟩
              go_wp2_with fail
              with_reducible refine (HW.out _).mono ?_
              rintro e v4 ⟨rfl, hbel⟩
              have HBL4 := Lib.hid hbel
              clear hbel
              go_wp2_with fail
              with_reducible refine (alive_any _).mono ?_
              rintro e v5 ⟨rfl, hbel⟩
              have HBL5 := Lib.hid hbel
              clear hbel
              go_wp2_with fail
              go_ret
              exact ⟨rfl, (((((LB.out.trans (HBL1.out.mono (LB.out.size))).trans (HBL2.out.mono (Nat.le_trans (LB.out.size) HBL1.out.size))).trans (HBL3.out.mono (Nat.le_trans (Nat.le_trans (LB.out.size) HBL1.out.size) HBL2.out.size))).trans (HBL4.out.mono (Nat.le_trans (Nat.le_trans (Nat.le_trans (LB.out.size) HBL1.out.size) HBL2.out.size) HBL3.out.size))).trans (HBL5.out.mono (Nat.le_trans (Nat.le_trans (Nat.le_trans (Nat.le_trans (LB.out.size) HBL1.out.size) HBL2.out.size) HBL3.out.size) HBL4.out.size)))⟩
        · have HT2 := Lib.hid (HT.out hT0)
          have hTd : decide ((0 : Int) < (T : Int)) = true := decide_eq_true (by omega)
          rw [show ((T - 1 : Nat) : Int) = (T : Int) - 1 by omega] at HT2
          have hT1 : (1 : Int) ≤ (T : Int) := by omega
          rcases hgc2 with hy | ⟨rfl, rfl⟩ | ⟨hoo, rfl, hb⟩
          · skip
            go_enter Try.func5, Try.ntmps5
            go_wp2_with fail
            with_reducible refine (HE.out _).mono ?_
            rintro e v1 ⟨rfl, hbel⟩
            have HBL1 := Lib.hid hbel
            clear hbel
            go_wp2_with fail
            with_reducible refine (HP2.out _).mono ?_
            rintro e v2 ⟨rfl, hbel⟩
            have HBL2 := Lib.hid hbel
            clear hbel
            go_wp2_with fail
            with_reducible refine (HT2.out _).mono ?_
            rintro e v3 ⟨rfl, hbel⟩
            have HBL3 := Lib.hid hbel
            clear hbel
            go_wp2_with fail
            with_reducible refine (HG.out _).mono ?_
            rintro e v4 ⟨rfl, hbel⟩
            have HBL4 := Lib.hid hbel
            clear hbel
            go_wp2_with fail
            with_reducible refine (HW.out _).mono ?_
            rintro e v5 ⟨rfl, hbel⟩
            have HBL5 := Lib.hid hbel
            clear hbel
            go_wp2_with fail
            with_reducible refine (alive_any _).mono ?_
            rintro e v6 ⟨rfl, hbel⟩
            have HBL6 := Lib.hid hbel
            clear hbel
            go_wp2_with fail
            with_reducible refine (HO1.out _).mono ?_
            rintro e w1 ⟨rfl, rfl⟩
            go_wp2_with fail
            go_ret
            exact ⟨rfl, ((((((LB.out.trans (HBL1.out.mono (LB.out.size))).trans (HBL2.out.mono (Nat.le_trans (LB.out.size) HBL1.out.size))).trans (HBL3.out.mono (Nat.le_trans (Nat.le_trans (LB.out.size) HBL1.out.size) HBL2.out.size))).trans (HBL4.out.mono (Nat.le_trans (Nat.le_trans (Nat.le_trans (LB.out.size) HBL1.out.size) HBL2.out.size) HBL3.out.size))).trans (HBL5.out.mono (Nat.le_trans (Nat.le_trans (Nat.le_trans (Nat.le_trans (LB.out.size) HBL1.out.size) HBL2.out.size) HBL3.out.size) HBL4.out.size))).trans (HBL6.out.mono (Nat.le_trans (Nat.le_trans (Nat.le_trans (Nat.le_trans (Nat.le_trans (LB.out.size) HBL1.out.size) HBL2.out.size) HBL3.out.size) HBL4.out.size) HBL5.out.size)))⟩
          · skip
            go_enter Try.func5, Try.ntmps5
            go_wp2_with fail
            with_reducible refine (HE.out _).mono ?_
            rintro e v1 ⟨rfl, hbel⟩
            have HBL1 := Lib.hid hbel
            clear hbel
            go_wp2_with fail
            with_reducible refine (HP2.out _).mono ?_
            rintro e v2 ⟨rfl, hbel⟩
            have HBL2 := Lib.hid hbel
            clear hbel
            go_wp2_with fail
            with_reducible refine (HT2.out _).mono ?_
            rintro e v3 ⟨rfl, hbel⟩
            have HBL3 := Lib.hid hbel
            clear hbel
            go_wp2_with fail
            with_reducible refine (HG.out _).mono ?_
            rintro e v4 ⟨rfl, hbel⟩
            have HBL4 := Lib.hid hbel
            clear hbel
            go_wp2_with fail
            with_reducible refine (HO2.out _).mono ?_
            rintro e w1 ⟨rfl, rfl⟩
            go_wp2_with fail
            with_reducible refine (HW.out _).mono ?_
            rintro e v5 ⟨rfl, hbel⟩
            have HBL5 := Lib.hid hbel
            clear hbel
            go_wp2_with fail
            with_reducible refine (alive_any _).mono ?_
            rintro e v6 ⟨rfl, hbel⟩
            have HBL6 := Lib.hid hbel
            clear hbel
            go_wp2_with fail
            with_reducible refine (HO1.out _).mono ?_
            rintro e w1 ⟨rfl, rfl⟩
            go_wp2_with fail
            go_ret
            exact ⟨rfl, ((((((LB.out.trans (HBL1.out.mono (LB.out.size))).trans (HBL2.out.mono (Nat.le_trans (LB.out.size) HBL1.out.size))).trans (HBL3.out.mono (Nat.le_trans (Nat.le_trans (LB.out.size) HBL1.out.size) HBL2.out.size))).trans (HBL4.out.mono (Nat.le_trans (Nat.le_trans (Nat.le_trans (LB.out.size) HBL1.out.size) HBL2.out.size) HBL3.out.size))).trans (HBL5.out.mono (Nat.le_trans (Nat.le_trans (Nat.le_trans (Nat.le_trans (LB.out.size) HBL1.out.size) HBL2.out.size) HBL3.out.size) HBL4.out.size))).trans (HBL6.out.mono (Nat.le_trans (Nat.le_trans (Nat.le_trans (Nat.le_trans (Nat.le_trans (LB.out.size) HBL1.out.size) HBL2.out.size) HBL3.out.size) HBL4.out.size) HBL5.out.size)))⟩
          · rcases hoo with rfl | rfl
            · skip
              go_enter Try.func5, Try.ntmps5
              go_wp2_with fail
              with_reducible refine (HE.out _).mono ?_
              rintro e v1 ⟨rfl, hbel⟩
              have HBL1 := Lib.hid hbel
              clear hbel
              go_wp2_with fail
              with_reducible refine (HP2.out _).mono ?_
              rintro e v2 ⟨rfl, hbel⟩
              have HBL2 := Lib.hid hbel
              clear hbel
              go_wp2_with fail
              with_reducible refine (HT2.out _).mono ?_
              rintro e v3 ⟨rfl, hbel⟩
              have HBL3 := Lib.hid hbel
              clear hbel
              go_wp2_with fail
              with_reducible refine (HG.out _).mono ?_
              rintro e v4 ⟨rfl, hbel⟩
              have HBL4 := Lib.hid hbel
              clear hbel
              go_wp2_with fail
              with_reducible refine (HO2.out _).mono ?_
              rintro e w1 ⟨rfl, rfl⟩
              go_wp2_with fail
              with_reducible refine (HW.out _).mono ?_
              rintro e v5 ⟨rfl, hbel⟩
              have HBL5 := Lib.hid hbel
              clear hbel
              go_wp2_with fail
              with_reducible refine (alive_any _).mono ?_
              rintro e v6 ⟨rfl, hbel⟩
              have HBL6 := Lib.hid hbel
              clear hbel
              go_wp2_with fail
              with_reducible refine (HO1.out _).mono ?_
              rintro e w1 ⟨rfl, rfl⟩
              go_wp2_with fail
              go_ret
              exact ⟨rfl, ((((((LB.out.trans (HBL1.out.mono (LB.out.size))).trans (HBL2.out.mono (Nat.le_trans (LB.out.size) HBL1.out.size))).trans (HBL3.out.mono (Nat.le_trans (Nat.le_trans (LB.out.size) HBL1.out.size) HBL2.out.size))).trans (HBL4.out.mono (Nat.le_trans (Nat.le_trans (Nat.le_trans (LB.out.size) HBL1.out.size) HBL2.out.size) HBL3.out.size))).trans (HBL5.out.mono (Nat.le_trans (Nat.le_trans (Nat.le_trans (Nat.le_trans (LB.out.size) HBL1.out.size) HBL2.out.size) HBL3.out.size) HBL4.out.size))).trans (HBL6.out.mono (Nat.le_trans (Nat.le_trans (Nat.le_trans (Nat.le_trans (Nat.le_trans (LB.out.size) HBL1.out.size) HBL2.out.size) HBL3.out.size) HBL4.out.size) HBL5.out.size)))⟩
            · skip
              go_enter Try.func5, Try.ntmps5
              go_wp2_with fail
              with_reducible refine (HE.out _).mono ?_
              rintro e v1 ⟨rfl, hbel⟩
              have HBL1 := Lib.hid hbel
              clear hbel
              go_wp2_with fail
              with_reducible refine (HP2.out _).mono ?_
              rintro e v2 ⟨rfl, hbel⟩
              have HBL2 := Lib.hid hbel
              clear hbel
              go_wp2_with fail
              with_reducible refine (HT2.out _).mono ?_
              rintro e v3 ⟨rfl, hbel⟩
              have HBL3 := Lib.hid hbel
              clear hbel
              go_wp2_with fail
              with_reducible refine (HG.out _).mono ?_
              rintro e v4 ⟨rfl, hbel⟩
              have HBL4 := Lib.hid hbel
              clear hbel
              go_wp2_with fail
              with_reducible refine (HO2.out _).mono ?_
              rintro e w1 ⟨rfl, rfl⟩
              go_wp2_with fail
              with_reducible refine (HW.out _).mono ?_
              rintro e v5 ⟨rfl, hbel⟩
              have HBL5 := Lib.hid hbel
              clear hbel
              go_wp2_with fail
              with_reducible refine (alive_any _).mono ?_
              rintro e v6 ⟨rfl, hbel⟩
              have HBL6 := Lib.hid hbel
              clear hbel
              go_wp2_with fail
              with_reducible refine (HO1.out _).mono ?_
              rintro e w1 ⟨rfl, rfl⟩
              go_wp2_with fail
              go_ret
              exact ⟨rfl, ((((((LB.out.trans (HBL1.out.mono (LB.out.size))).trans (HBL2.out.mono (Nat.le_trans (LB.out.size) HBL1.out.size))).trans (HBL3.out.mono (Nat.le_trans (Nat.le_trans (LB.out.size) HBL1.out.size) HBL2.out.size))).trans (HBL4.out.mono (Nat.le_trans (Nat.le_trans (Nat.le_trans (LB.out.size) HBL1.out.size) HBL2.out.size) HBL3.out.size))).trans (HBL5.out.mono (Nat.le_trans (Nat.le_trans (Nat.le_trans (Nat.le_trans (LB.out.size) HBL1.out.size) HBL2.out.size) HBL3.out.size) HBL4.out.size))).trans (HBL6.out.mono (Nat.le_trans (Nat.le_trans (Nat.le_trans (Nat.le_trans (Nat.le_trans (LB.out.size) HBL1.out.size) HBL2.out.size) HBL3.out.size) HBL4.out.size) HBL5.out.size)))⟩
      · have hPd : decide ((p : Int) < 1125899906842624) = false := decide_eq_false (by omega)
        rcases Nat.eq_zero_or_pos T with hT0 | hT0
        · subst hT0
          have zz : ((0 : Nat) : Int) = 0 := rfl
          simp only [zz] at HE HW HG HP
          clear zz hTi hT
          rcases hgc2 with hy | ⟨rfl, rfl⟩ | ⟨hoo, rfl, hb⟩
          · skip
            go_enter Try.func5, Try.ntmps5
            go_wp2_with fail
            with_reducible refine (HE.out _).mono ?_
            rintro e v1 ⟨rfl, hbel⟩
            have HBL1 := Lib.hid hbel
            clear hbel
            go_wp2_with fail
            with_reducible refine (HG.out _).mono ?_
            rintro e v2 ⟨rfl, hbel⟩
            have HBL2 := Lib.hid hbel
            clear hbel
            go_wp2_with fail
            with_reducible refine (HW.out _).mono ?_
            rintro e v3 ⟨rfl, hbel⟩
            have HBL3 := Lib.hid hbel
            clear hbel
            go_wp2_with fail
            with_reducible refine (alive_any _).mono ?_
            rintro e v4 ⟨rfl, hbel⟩
            have HBL4 := Lib.hid hbel
            clear hbel
            go_wp2_with fail
            go_ret
            exact ⟨rfl, ((((LB.out.trans (HBL1.out.mono (LB.out.size))).trans (HBL2.out.mono (Nat.le_trans (LB.out.size) HBL1.out.size))).trans (HBL3.out.mono (Nat.le_trans (Nat.le_trans (LB.out.size) HBL1.out.size) HBL2.out.size))).trans (HBL4.out.mono (Nat.le_trans (Nat.le_trans (Nat.le_trans (LB.out.size) HBL1.out.size) HBL2.out.size) HBL3.out.size)))⟩
          · skip
            go_enter Try.func5, Try.ntmps5
            go_wp2_with fail
            with_reducible refine (HE.out _).mono ?_
            rintro e v1 ⟨rfl, hbel⟩
            have HBL1 := Lib.hid hbel
            clear hbel
            go_wp2_with fail
            with_reducible refine (HG.out _).mono ?_
            rintro e v2 ⟨rfl, hbel⟩
            have HBL2 := Lib.hid hbel
            clear hbel
            go_wp2_with fail
            with_reducible refine (HO2.out _).mono ?_
            rintro e w1 ⟨rfl, rfl⟩
            go_wp2_with fail
            with_reducible refine (HW.out _).mono ?_
            rintro e v3 ⟨rfl, hbel⟩
            have HBL3 := Lib.hid hbel
            clear hbel
            go_wp2_with fail
            with_reducible refine (alive_any _).mono ?_
            rintro e v4 ⟨rfl, hbel⟩
            have HBL4 := Lib.hid hbel
            clear hbel
            go_wp2_with fail
            go_ret
            exact ⟨rfl, ((((LB.out.trans (HBL1.out.mono (LB.out.size))).trans (HBL2.out.mono (Nat.le_trans (LB.out.size) HBL1.out.size))).trans (HBL3.out.mono (Nat.le_trans (Nat.le_trans (LB.out.size) HBL1.out.size) HBL2.out.size))).trans (HBL4.out.mono (Nat.le_trans (Nat.le_trans (Nat.le_trans (LB.out.size) HBL1.out.size) HBL2.out.size) HBL3.out.size)))⟩
          · rcases hoo with rfl | rfl
            · skip
              go_enter Try.func5, Try.ntmps5
              go_wp2_with fail
              with_reducible refine (HE.out _).mono ?_
              rintro e v1 ⟨rfl, hbel⟩
              have HBL1 := Lib.hid hbel
              clear hbel
              go_wp2_with fail
              with_reducible refine (HG.out _).mono ?_
              rintro e v2 ⟨rfl, hbel⟩
              have HBL2 := Lib.hid hbel
              clear hbel
              go_wp2_with fail
              with_reducible refine (HO2.out _).mono ?_
              rintro e w1 ⟨rfl, rfl⟩
              go_wp2_with fail
              with_reducible refine (HW.out _).mono ?_
              rintro e v3 ⟨rfl, hbel⟩
              have HBL3 := Lib.hid hbel
              clear hbel
              go_wp2_with fail
              with_reducible refine (alive_any _).mono ?_
              rintro e v4 ⟨rfl, hbel⟩
              have HBL4 := Lib.hid hbel
              clear hbel
              go_wp2_with fail
              go_ret
              exact ⟨rfl, ((((LB.out.trans (HBL1.out.mono (LB.out.size))).trans (HBL2.out.mono (Nat.le_trans (LB.out.size) HBL1.out.size))).trans (HBL3.out.mono (Nat.le_trans (Nat.le_trans (LB.out.size) HBL1.out.size) HBL2.out.size))).trans (HBL4.out.mono (Nat.le_trans (Nat.le_trans (Nat.le_trans (LB.out.size) HBL1.out.size) HBL2.out.size) HBL3.out.size)))⟩
            · skip
              go_enter Try.func5, Try.ntmps5
              go_wp2_with fail
              with_reducible refine (HE.out _).mono ?_
              rintro e v1 ⟨rfl, hbel⟩
              have HBL1 := Lib.hid hbel
              clear hbel
              go_wp2_with fail
              with_reducible refine (HG.out _).mono ?_
              rintro e v2 ⟨rfl, hbel⟩
              have HBL2 := Lib.hid hbel
              clear hbel
              go_wp2_with fail
              with_reducible refine (HO2.out _).mono ?_
              rintro e w1 ⟨rfl, rfl⟩
              go_wp2_with fail
              with_reducible refine (HW.out _).mono ?_
              rintro e v3 ⟨rfl, hbel⟩
              have HBL3 := Lib.hid hbel
              clear hbel
              go_wp2_with fail
              with_reducible refine (alive_any _).mono ?_
              rintro e v4 ⟨rfl, hbel⟩
              have HBL4 := Lib.hid hbel
              clear hbel
              go_wp2_with fail
              go_ret
              exact ⟨rfl, ((((LB.out.trans (HBL1.out.mono (LB.out.size))).trans (HBL2.out.mono (Nat.le_trans (LB.out.size) HBL1.out.size))).trans (HBL3.out.mono (Nat.le_trans (Nat.le_trans (LB.out.size) HBL1.out.size) HBL2.out.size))).trans (HBL4.out.mono (Nat.le_trans (Nat.le_trans (Nat.le_trans (LB.out.size) HBL1.out.size) HBL2.out.size) HBL3.out.size)))⟩
        · have HT2 := Lib.hid (HT.out hT0)
          have hTd : decide ((0 : Int) < (T : Int)) = true := decide_eq_true (by omega)
          rw [show ((T - 1 : Nat) : Int) = (T : Int) - 1 by omega] at HT2
          have hT1 : (1 : Int) ≤ (T : Int) := by omega
          rcases hgc2 with hy | ⟨rfl, rfl⟩ | ⟨hoo, rfl, hb⟩
          · skip
            go_enter Try.func5, Try.ntmps5
            go_wp2_with fail
            with_reducible refine (HE.out _).mono ?_
            rintro e v1 ⟨rfl, hbel⟩
            have HBL1 := Lib.hid hbel
            clear hbel
            go_wp2_with fail
            with_reducible refine (HT2.out _).mono ?_
            rintro e v2 ⟨rfl, hbel⟩
            have HBL2 := Lib.hid hbel
            clear hbel
            go_wp2_with fail
            with_reducible refine (HG.out _).mono ?_
            rintro e v3 ⟨rfl, hbel⟩
            have HBL3 := Lib.hid hbel
            clear hbel
            go_wp2_with fail
            with_reducible refine (HW.out _).mono ?_
            rintro e v4 ⟨rfl, hbel⟩
            have HBL4 := Lib.hid hbel
            clear hbel
            go_wp2_with fail
            with_reducible refine (alive_any _).mono ?_
            rintro e v5 ⟨rfl, hbel⟩
            have HBL5 := Lib.hid hbel
            clear hbel
            go_wp2_with fail
            with_reducible refine (HO1.out _).mono ?_
            rintro e w1 ⟨rfl, rfl⟩
            go_wp2_with fail
            go_ret
            exact ⟨rfl, (((((LB.out.trans (HBL1.out.mono (LB.out.size))).trans (HBL2.out.mono (Nat.le_trans (LB.out.size) HBL1.out.size))).trans (HBL3.out.mono (Nat.le_trans (Nat.le_trans (LB.out.size) HBL1.out.size) HBL2.out.size))).trans (HBL4.out.mono (Nat.le_trans (Nat.le_trans (Nat.le_trans (LB.out.size) HBL1.out.size) HBL2.out.size) HBL3.out.size))).trans (HBL5.out.mono (Nat.le_trans (Nat.le_trans (Nat.le_trans (Nat.le_trans (LB.out.size) HBL1.out.size) HBL2.out.size) HBL3.out.size) HBL4.out.size)))⟩
          · skip
            go_enter Try.func5, Try.ntmps5
            go_wp2_with fail
            with_reducible refine (HE.out _).mono ?_
            rintro e v1 ⟨rfl, hbel⟩
            have HBL1 := Lib.hid hbel
            clear hbel
            go_wp2_with fail
            with_reducible refine (HT2.out _).mono ?_
            rintro e v2 ⟨rfl, hbel⟩
            have HBL2 := Lib.hid hbel
            clear hbel
            go_wp2_with fail
            with_reducible refine (HG.out _).mono ?_
            rintro e v3 ⟨rfl, hbel⟩
            have HBL3 := Lib.hid hbel
            clear hbel
            go_wp2_with fail
            with_reducible refine (HO2.out _).mono ?_
            rintro e w1 ⟨rfl, rfl⟩
            go_wp2_with fail
            with_reducible refine (HW.out _).mono ?_
            rintro e v4 ⟨rfl, hbel⟩
            have HBL4 := Lib.hid hbel
            clear hbel
            go_wp2_with fail
            with_reducible refine (alive_any _).mono ?_
            rintro e v5 ⟨rfl, hbel⟩
            have HBL5 := Lib.hid hbel
            clear hbel
            go_wp2_with fail
            with_reducible refine (HO1.out _).mono ?_
            rintro e w1 ⟨rfl, rfl⟩
            go_wp2_with fail
            go_ret
            exact ⟨rfl, (((((LB.out.trans (HBL1.out.mono (LB.out.size))).trans (HBL2.out.mono (Nat.le_trans (LB.out.size) HBL1.out.size))).trans (HBL3.out.mono (Nat.le_trans (Nat.le_trans (LB.out.size) HBL1.out.size) HBL2.out.size))).trans (HBL4.out.mono (Nat.le_trans (Nat.le_trans (Nat.le_trans (LB.out.size) HBL1.out.size) HBL2.out.size) HBL3.out.size))).trans (HBL5.out.mono (Nat.le_trans (Nat.le_trans (Nat.le_trans (Nat.le_trans (LB.out.size) HBL1.out.size) HBL2.out.size) HBL3.out.size) HBL4.out.size)))⟩
          · rcases hoo with rfl | rfl
            · skip
              go_enter Try.func5, Try.ntmps5
              go_wp2_with fail
              with_reducible refine (HE.out _).mono ?_
              rintro e v1 ⟨rfl, hbel⟩
              have HBL1 := Lib.hid hbel
              clear hbel
              go_wp2_with fail
              with_reducible refine (HT2.out _).mono ?_
              rintro e v2 ⟨rfl, hbel⟩
              have HBL2 := Lib.hid hbel
              clear hbel
              go_wp2_with fail
              with_reducible refine (HG.out _).mono ?_
              rintro e v3 ⟨rfl, hbel⟩
              have HBL3 := Lib.hid hbel
              clear hbel
              go_wp2_with fail
              with_reducible refine (HO2.out _).mono ?_
              rintro e w1 ⟨rfl, rfl⟩
              go_wp2_with fail
              with_reducible refine (HW.out _).mono ?_
              rintro e v4 ⟨rfl, hbel⟩
              have HBL4 := Lib.hid hbel
              clear hbel
              go_wp2_with fail
              with_reducible refine (alive_any _).mono ?_
              rintro e v5 ⟨rfl, hbel⟩
              have HBL5 := Lib.hid hbel
              clear hbel
              go_wp2_with fail
              with_reducible refine (HO1.out _).mono ?_
              rintro e w1 ⟨rfl, rfl⟩
              go_wp2_with fail
              go_ret
              exact ⟨rfl, (((((LB.out.trans (HBL1.out.mono (LB.out.size))).trans (HBL2.out.mono (Nat.le_trans (LB.out.size) HBL1.out.size))).trans (HBL3.out.mono (Nat.le_trans (Nat.le_trans (LB.out.size) HBL1.out.size) HBL2.out.size))).trans (HBL4.out.mono (Nat.le_trans (Nat.le_trans (Nat.le_trans (LB.out.size) HBL1.out.size) HBL2.out.size) HBL3.out.size))).trans (HBL5.out.mono (Nat.le_trans (Nat.le_trans (Nat.le_trans (Nat.le_trans (LB.out.size) HBL1.out.size) HBL2.out.size) HBL3.out.size) HBL4.out.size)))⟩
            · skip
              go_enter Try.func5, Try.ntmps5
              go_wp2_with fail
              with_reducible refine (HE.out _).mono ?_
              rintro e v1 ⟨rfl, hbel⟩
              have HBL1 := Lib.hid hbel
              clear hbel
              go_wp2_with fail
              with_reducible refine (HT2.out _).mono ?_
              rintro e v2 ⟨rfl, hbel⟩
              have HBL2 := Lib.hid hbel
              clear hbel
              go_wp2_with fail
              with_reducible refine (HG.out _).mono ?_
              rintro e v3 ⟨rfl, hbel⟩
              have HBL3 := Lib.hid hbel
              clear hbel
              go_wp2_with fail
              with_reducible refine (HO2.out _).mono ?_
              rintro e w1 ⟨rfl, rfl⟩
              go_wp2_with fail
              with_reducible refine (HW.out _).mono ?_
              rintro e v4 ⟨rfl, hbel⟩
              have HBL4 := Lib.hid hbel
              clear hbel
              go_wp2_with fail
              with_reducible refine (alive_any _).mono ?_
              rintro e v5 ⟨rfl, hbel⟩
              have HBL5 := Lib.hid hbel
              clear hbel
              go_wp2_with fail
              with_reducible refine (HO1.out _).mono ?_
              rintro e w1 ⟨rfl, rfl⟩
              go_wp2_with fail
              go_ret
              exact ⟨rfl, (((((LB.out.trans (HBL1.out.mono (LB.out.size))).trans (HBL2.out.mono (Nat.le_trans (LB.out.size) HBL1.out.size))).trans (HBL3.out.mono (Nat.le_trans (Nat.le_trans (LB.out.size) HBL1.out.size) HBL2.out.size))).trans (HBL4.out.mono (Nat.le_trans (Nat.le_trans (Nat.le_trans (LB.out.size) HBL1.out.size) HBL2.out.size) HBL3.out.size))).trans (HBL5.out.mono (Nat.le_trans (Nat.le_trans (Nat.le_trans (Nat.le_trans (LB.out.size) HBL1.out.size) HBL2.out.size) HBL3.out.size) HBL4.out.size)))⟩

set_option maxRecDepth 100000 in
theorem lifted (os : Os) (started : os.Started) (H : Type) (enc : TypeId × Value → H) :
    ReturnsInHanded {} Try.checked os 5 .any (Rows.levelMoreSpec.pre6 enc Try.prog Try.f5 Rows.levelMoreRow.domain false) (Rows.levelMoreSpec.post enc Try.prog Try.f5 false true false false) := by
  refine returnsInHanded_of_change (C := Try.checked) own started (by kernel_rfl) Try.func5
    (ChangeSpec.witness6 (enc := enc) (C := Try.checked) false ⟨#[], #[.int .i64 0, .int .i64 0, .agg #[.float .f64 0, .float .f64 0]], []⟩ 8 (by kernel_rfl) (by kernel_rfl) (by kernel_rfl) (by kernel_rfl)) ?_
  intro W base args ds gs before hval0 hW hcnd _
  have hval : ∀ (j : Nat) t v, Try.f5.params[j]? = some t → args[j]? = some v → Value.okWide Try.prog W .any base t v := hval0
  have hW' := hW
  obtain ⟨p, q, hA0, hV, rfl, hfz, hnd⟩ := hW
  have hA : DataW.TrodAll enc Try.prog W 0 (fun _ => true) true Try.f5.params.toList args.toList ds p := hA0
  rw [Try.params5] at hA hval
  obtain ⟨v0, vs0, d0, ds0, p0, q0, hargs, rfl, rfl, h0, r0⟩ := trodAll_cons hA
  obtain ⟨v1, vs1, d1, ds1, p1, q1, rfl, rfl, rfl, h1, r1⟩ := trodAll_cons r0
  obtain ⟨v2, vs2, d2, ds2, p2, q2, rfl, rfl, rfl, h2, r2⟩ := trodAll_cons r1
  obtain ⟨rfl, rfl, rfl⟩ := trodAll_nil r2
  obtain rfl : args = #[v0, v1, v2] := by cases args; simp_all
  obtain ⟨rfl, rfl⟩ := trodVars_none hV
  have k0 := h0
  have lt0 : ∀ x ∈ p0, x.block < W.heap.size := by obtain ⟨m, hm⟩ := k0; exact DataW.trod_lt m _ _ _ hm
  have k1 := h1
  have lt1 : ∀ x ∈ p1, x.block < W.heap.size := by obtain ⟨m, hm⟩ := k1; exact DataW.trod_lt m _ _ _ hm
  have k2 := h2
  have lt2 : ∀ x ∈ p2, x.block < W.heap.size := by obtain ⟨m, hm⟩ := k2; exact DataW.trod_lt m _ _ _ hm
  obtain ⟨a0, rfl, w0⟩ := open_i64 (hval 0 3 v0 rfl rfl) h0
  obtain ⟨a1, rfl, w1⟩ := open_i64 (hval 1 3 v1 rfl rfl) h1
  obtain ⟨a2, b2, rfl, w2, x2⟩ := open_f2 (hval 2 32 v2 rfl rfl) h2
  clear hA0 hval0
  refine (walk a0 w0 a1 w1 a2 b2 w2 x2 W).mono fun e W' ⟨he, bel⟩ => ?_
  subst he
  exact ⟨_, rfl, _, _, _, [], _, [], hW', trodAll_mk1 (shut_bool Try.underlying4 _), (trodAll_cons_mk (Below.trod laidOut (by kernel_rfl) (of_decide_eq_true (by kernel_rfl)) k0 bel lt0) (trodAll_cons_mk (Below.trod laidOut (by kernel_rfl) (of_decide_eq_true (by kernel_rfl)) k1 bel lt1) (trodAll_cons_mk (Below.trod laidOut (by kernel_rfl) (of_decide_eq_true (by kernel_rfl)) k2 bel lt2) trodAll_mk0))), rfl, bel.frame _, fun h => by cases h⟩

theorem over : Rows.levelMoreRow.holds Try.pinned (OpenSpec.ofChange Rows.levelMoreSpec) :=
  OpenClaim.holds_of_wide 5 Try.f5 rfl rfl rfl rfl rfl rfl rfl ⟨rfl, rfl, rfl, rfl, rfl⟩ rfl rfl rfl rfl rfl (by kernel_rfl) Try.func5 (by kernel_rfl)
    (of_decide_eq_true (by kernel_rfl)) (by unfold Func.isWrapper; first | (rw [if_pos (by decide +kernel)]; kernel_rfl) | (rw [if_neg (by decide +kernel)]; exact ⟨rfl, rfl⟩))
    (fun os started H enc _ => lifted os started H enc)

/-- The statement. -/
theorem proved : Rows.LevelMoreSaid := over
#print axioms proved
end Go.Proofs.Ytpbdlmkcomnjbaa.levelMore

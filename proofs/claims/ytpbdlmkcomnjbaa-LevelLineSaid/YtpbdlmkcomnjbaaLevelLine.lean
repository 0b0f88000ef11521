/- What this text proves: the statement LevelLine: for every three numbers the law returns true and leaves its arguments as they were. No condition. -/
import Derived.Test.YtpbdlmkcomnjbaaRows
import Derived.Test.YtpbdlmkcomnjbaaOpenF
import Derived.Test.YtpbdlmkcomnjbaaLevJ
import Derived.ProofKit
import Derived.OpenShut
import Derived.ChangeOld
namespace Go.Proofs.Ytpbdlmkcomnjbaa.levelLine
open Go.ChangeShapes Go.WideShapes Go.ChangeAt Go.RowKit
set_option linter.unusedVariables false
set_option linter.unusedSimpArgs false

theorem place_bits_iff (a b : Nat) (ha : a < 18446744073709551616) (hb : b < 18446744073709551616) : place a = place b ↔ bitsF a = bitsF b := by
  have i1 : infR = 9218868437227405312 := rfl
  have nn : ∀ c : Nat, c < 18446744073709551616 → nanB c = false → c ≠ 9221120237041090561 := by
    intro c _ hn h
    subst h
    exact absurd hn (by decide)
  have inj : ∀ c d : Nat, c < 18446744073709551616 → d < 18446744073709551616 → nanB c = false → nanB d = false → place c = place d → c = d := by
    intro c d hc hd hcn hdn h
    rw [(place_nn hcn).2, (place_nn hdn).2] at h
    unfold sg rg top at h
    by_cases h1 : 9223372036854775808 ≤ c
    · by_cases h2 : 9223372036854775808 ≤ d
      · rw [decide_eq_true h1, decide_eq_true h2, if_pos rfl, if_pos rfl] at h; omega
      · rw [decide_eq_true h1, decide_eq_false h2, if_pos rfl, if_neg (by decide)] at h; omega
    · by_cases h2 : 9223372036854775808 ≤ d
      · rw [decide_eq_false h1, decide_eq_true h2, if_neg (by decide), if_pos rfl] at h; omega
      · rw [decide_eq_false h1, decide_eq_false h2, if_neg (by decide), if_neg (by decide)] at h; omega
  unfold bitsF
  cases na : nanB a with
  | true =>
    rw [place_nan na]
    cases nb : nanB b with
    | true => rw [place_nan nb]; simp
    | false =>
      have h1 := (place_nn nb).1
      have h2 := nn b hb nb
      simp only [if_true, Bool.false_eq_true, if_false]
      constructor
      · intro h; omega
      · intro h; exact absurd h.symm h2
  | false =>
    have h1 := (place_nn na).1
    have h2 := nn a ha na
    cases nb : nanB b with
    | true =>
      rw [place_nan nb]
      simp only [if_true, Bool.false_eq_true, if_false]
      constructor
      · intro h; omega
      · intro h; exact absurd h h2
    | false =>
      simp only [Bool.false_eq_true, if_false]
      constructor
      · exact inj a b ha hb na nb
      · intro h; rw [h]
theorem cmp_cases (x y : Int) : (x < y ∧ cmpI x y = -1 ∧ cmpI y x = 1) ∨ (x = y ∧ cmpI x y = 0 ∧ cmpI y x = 0) ∨ (y < x ∧ cmpI x y = 1 ∧ cmpI y x = -1) := by
  unfold cmpI
  rcases Int.lt_trichotomy x y with h | h | h
  · exact .inl ⟨h, if_pos h, by rw [if_neg (by omega), if_pos h]⟩
  · exact .inr (.inl ⟨h, by rw [if_neg (by omega), if_neg (by omega)], by rw [if_neg (by omega), if_neg (by omega)]⟩)
  · exact .inr (.inr ⟨h, by rw [if_neg (by omega), if_pos h], if_pos h⟩)
theorem walk (a : Nat) (ha : a < 18446744073709551616) (b : Nat) (hb : b < 18446744073709551616) (c : Nat) (hc : c < 18446744073709551616) (w : World) : Calls Try.prog 4 #[.float .f64 a, .float .f64 b, .float .f64 c] w fun e w' => e = .returned (.bool true) ∧ Below w.heap.size w w' := by
  have H1 := Lib.hid (order_any a b ha hb)
  have H2 := Lib.hid (order_any b a hb ha)
  have H3 := Lib.hid (order_any b c hb hc)
  have H4 := Lib.hid (order_any a c ha hc)
  have H5 := Lib.hid (bits_any a ha)
  have H6 := Lib.hid (bits_any b hb)
  have hi := place_bits_iff a b ha hb
  obtain ⟨x, hx⟩ : ∃ x, place a = x := ⟨_, rfl⟩
  obtain ⟨y, hy⟩ : ∃ y, place b = y := ⟨_, rfl⟩
  obtain ⟨z, hz⟩ : ∃ z, place c = z := ⟨_, rfl⟩
  obtain ⟨p, hp⟩ : ∃ p, bitsF a = p := ⟨_, rfl⟩
  obtain ⟨q, hq⟩ : ∃ q, bitsF b = q := ⟨_, rfl⟩
  rw [hx, hy] at H1 H2 hi
  rw [hy, hz] at H3
  rw [hx, hz] at H4
  rw [hp] at H5 hi
  rw [hq] at H6 hi
  clear hx hy hz hp hq
  rcases cmp_cases x y with ⟨g1, e1, e2⟩ | ⟨g1, e1, e2⟩ | ⟨g1, e1, e2⟩
  · rw [e1] at H1
    rw [e2] at H2
    have hpq : ¬ p = q := fun h => by have := hi.2 h; omega
    have hpq2 : ((p : Int) == (q : Int)) = false := by rw [beq_eq_false_iff_ne]; omega
    rcases cmp_cases y z with ⟨g3, e3, _⟩ | ⟨g3, e3, _⟩ | ⟨g3, e3, _⟩
    · rw [e3] at H3
      rcases cmp_cases x z with ⟨g4, e4, _⟩ | ⟨g4, e4, _⟩ | ⟨g4, e4, _⟩
      · rw [e4] at H4
        clear hi g1 g3 g4 e1 e2 e3 e4
        go_enter Try.func4, Try.ntmps4
        go_wp2_with fail
        with_reducible refine (H1.out _).mono ?_
        rintro e w1 ⟨rfl, rfl⟩
        go_wp2_with fail
        with_reducible refine (H2.out _).mono ?_
        rintro e w1 ⟨rfl, rfl⟩
        go_wp2_with fail
        with_reducible refine (H3.out _).mono ?_
        rintro e w1 ⟨rfl, rfl⟩
        go_wp2_with fail
        with_reducible refine (H4.out _).mono ?_
        rintro e w1 ⟨rfl, rfl⟩
        go_wp2_with fail
        with_reducible refine (alive_any _).mono ?_
        rintro e v1 ⟨rfl, hbel⟩
        have HBL1 := Lib.hid hbel
        clear hbel
        go_wp2_with fail
        with_reducible refine (H5.out _).mono ?_
        rintro e w1 ⟨rfl, rfl⟩
        go_wp2_with fail
        with_reducible refine (H6.out _).mono ?_
        rintro e w1 ⟨rfl, rfl⟩
        go_wp2_with fail
        go_ret
        exact ⟨rfl, HBL1.out⟩
      · exact absurd g4 (by omega)
      · exact absurd g4 (by omega)
    · rw [e3] at H3
      rcases cmp_cases x z with ⟨g4, e4, _⟩ | ⟨g4, e4, _⟩ | ⟨g4, e4, _⟩
      · rw [e4] at H4
        clear hi g1 g3 g4 e1 e2 e3 e4
        go_enter Try.func4, Try.ntmps4
        go_wp2_with fail
        with_reducible refine (H1.out _).mono ?_
        rintro e w1 ⟨rfl, rfl⟩
        go_wp2_with fail
        with_reducible refine (H2.out _).mono ?_
        rintro e w1 ⟨rfl, rfl⟩
        go_wp2_with fail
        with_reducible refine (H3.out _).mono ?_
        rintro e w1 ⟨rfl, rfl⟩
        go_wp2_with fail
        with_reducible refine (H4.out _).mono ?_
        rintro e w1 ⟨rfl, rfl⟩
        go_wp2_with fail
        with_reducible refine (alive_any _).mono ?_
        rintro e v1 ⟨rfl, hbel⟩
        have HBL1 := Lib.hid hbel
        clear hbel
        go_wp2_with fail
        with_reducible refine (H5.out _).mono ?_
        rintro e w1 ⟨rfl, rfl⟩
        go_wp2_with fail
        with_reducible refine (H6.out _).mono ?_
        rintro e w1 ⟨rfl, rfl⟩
        go_wp2_with fail
        go_ret
        exact ⟨rfl, HBL1.out⟩
      · exact absurd g4 (by omega)
      · exact absurd g4 (by omega)
    · rw [e3] at H3
      rcases cmp_cases x z with ⟨g4, e4, _⟩ | ⟨g4, e4, _⟩ | ⟨g4, e4, _⟩
      · rw [e4] at H4
        clear hi g1 g3 g4 e1 e2 e3 e4
        go_enter Try.func4, Try.ntmps4
        go_wp2_with fail
        with_reducible refine (H1.out _).mono ?_
        rintro e w1 ⟨rfl, rfl⟩
        go_wp2_with fail
        with_reducible refine (H2.out _).mono ?_
        rintro e w1 ⟨rfl, rfl⟩
        go_wp2_with fail
        with_reducible refine (H3.out _).mono ?_
        rintro e w1 ⟨rfl, rfl⟩
        go_wp2_with fail
        with_reducible refine (H4.out _).mono ?_
        rintro e w1 ⟨rfl, rfl⟩
        go_wp2_with fail
        with_reducible refine (alive_any _).mono ?_
        rintro e v1 ⟨rfl, hbel⟩
        have HBL1 := Lib.hid hbel
        clear hbel
        go_wp2_with fail
        with_reducible refine (H5.out _).mono ?_
        rintro e w1 ⟨rfl, rfl⟩
        go_wp2_with fail
        with_reducible refine (H6.out _).mono ?_
        rintro e w1 ⟨rfl, rfl⟩
        go_wp2_with fail
        go_ret
        exact ⟨rfl, HBL1.out⟩
      · rw [e4] at H4
        clear hi g1 g3 g4 e1 e2 e3 e4
        go_enter Try.func4, Try.ntmps4
        go_wp2_with fail
        with_reducible refine (H1.out _).mono ?_
        rintro e w1 ⟨rfl, rfl⟩
        go_wp2_with fail
        with_reducible refine (H2.out _).mono ?_
        rintro e w1 ⟨rfl, rfl⟩
        go_wp2_with fail
        with_reducible refine (H3.out _).mono ?_
        rintro e w1 ⟨rfl, rfl⟩
        go_wp2_with fail
        with_reducible refine (H4.out _).mono ?_
        rintro e w1 ⟨rfl, rfl⟩
        go_wp2_with fail
        with_reducible refine (alive_any _).mono ?_
        rintro e v1 ⟨rfl, hbel⟩
        have HBL1 := Lib.hid hbel
        clear hbel
        go_wp2_with fail
        with_reducible refine (H5.out _).mono ?_
        rintro e w1 ⟨rfl, rfl⟩
        go_wp2_with fail
        with_reducible refine (H6.out _).mono ?_
        rintro e w1 ⟨rfl, rfl⟩
        go_wp2_with fail
        go_ret
        exact ⟨rfl, HBL1.out⟩
      · rw [e4] at H4
        clear hi g1 g3 g4 e1 e2 e3 e4
        go_enter Try.func4, Try.ntmps4
        go_wp2_with fail
        with_reducible refine (H1.out _).mono ?_
        rintro e w1 ⟨rfl, rfl⟩
        go_wp2_with fail
        with_reducible refine (H2.out _).mono ?_
        rintro e w1 ⟨rfl, rfl⟩
        go_wp2_with fail
        with_reducible refine (H3.out _).mono ?_
        rintro e w1 ⟨rfl, rfl⟩
        go_wp2_with fail
        with_reducible refine (H4.out _).mono ?_
        rintro e w1 ⟨rfl, rfl⟩
        go_wp2_with fail
        with_reducible refine (alive_any _).mono ?_
        rintro e v1 ⟨rfl, hbel⟩
        have HBL1 := Lib.hid hbel
        clear hbel
        go_wp2_with fail
        with_reducible refine (H5.out _).mono ?_
        rintro e w1 ⟨rfl, rfl⟩
        go_wp2_with fail
        with_reducible refine (H6.out _).mono ?_
        rintro e w1 ⟨rfl, rfl⟩
        go_wp2_with fail
        go_ret
        exact ⟨rfl, HBL1.out⟩
  · rw [e1] at H1
    rw [e2] at H2
    have hpq : p = q := hi.1 g1
    subst hpq
    rcases cmp_cases y z with ⟨g3, e3, _⟩ | ⟨g3, e3, _⟩ | ⟨g3, e3, _⟩
    · rw [e3] at H3
      rcases cmp_cases x z with ⟨g4, e4, _⟩ | ⟨g4, e4, _⟩ | ⟨g4, e4, _⟩
      · rw [e4] at H4
        clear hi g1 g3 g4 e1 e2 e3 e4
        go_enter Try.func4, Try.ntmps4
        go_wp2_with fail
        with_reducible refine (H1.out _).mono ?_
        rintro e w1 ⟨rfl, rfl⟩
        go_wp2_with fail
        with_reducible refine (H2.out _).mono ?_
        rintro e w1 ⟨rfl, rfl⟩
        go_wp2_with fail
        with_reducible refine (H3.out _).mono ?_
        rintro e w1 ⟨rfl, rfl⟩
        go_wp2_with fail
        with_reducible refine (H4.out _).mono ?_
        rintro e w1 ⟨rfl, rfl⟩
        go_wp2_with fail
        with_reducible refine (alive_any _).mono ?_
        rintro e v1 ⟨rfl, hbel⟩
        have HBL1 := Lib.hid hbel
        clear hbel
        go_wp2_with fail
        with_reducible refine (H5.out _).mono ?_
        rintro e w1 ⟨rfl, rfl⟩
        go_wp2_with fail
        with_reducible refine (H6.out _).mono ?_
        rintro e w1 ⟨rfl, rfl⟩
        go_wp2_with fail
        go_ret
        exact ⟨rfl, HBL1.out⟩
      · exact absurd g4 (by omega)
      · exact absurd g4 (by omega)
    · rw [e3] at H3
      rcases cmp_cases x z with ⟨g4, e4, _⟩ | ⟨g4, e4, _⟩ | ⟨g4, e4, _⟩
      · exact absurd g4 (by omega)
      · rw [e4] at H4
        clear hi g1 g3 g4 e1 e2 e3 e4
        go_enter Try.func4, Try.ntmps4
        go_wp2_with fail
        with_reducible refine (H1.out _).mono ?_
        rintro e w1 ⟨rfl, rfl⟩
        go_wp2_with fail
        with_reducible refine (H2.out _).mono ?_
        rintro e w1 ⟨rfl, rfl⟩
        go_wp2_with fail
        with_reducible refine (H3.out _).mono ?_
        rintro e w1 ⟨rfl, rfl⟩
        go_wp2_with fail
        with_reducible refine (H4.out _).mono ?_
        rintro e w1 ⟨rfl, rfl⟩
        go_wp2_with fail
        with_reducible refine (alive_any _).mono ?_
        rintro e v1 ⟨rfl, hbel⟩
        have HBL1 := Lib.hid hbel
        clear hbel
        go_wp2_with fail
        with_reducible refine (H5.out _).mono ?_
        rintro e w1 ⟨rfl, rfl⟩
        go_wp2_with fail
        with_reducible refine (H6.out _).mono ?_
        rintro e w1 ⟨rfl, rfl⟩
        go_wp2_with fail
        go_ret
        exact ⟨rfl, HBL1.out⟩
      · exact absurd g4 (by omega)
    · rw [e3] at H3
      rcases cmp_cases x z with ⟨g4, e4, _⟩ | ⟨g4, e4, _⟩ | ⟨g4, e4, _⟩
      · exact absurd g4 (by omega)
      · exact absurd g4 (by omega)
      · rw [e4] at H4
        clear hi g1 g3 g4 e1 e2 e3 e4
        go_enter Try.func4, Try.ntmps4
        go_wp2_with fail
        with_reducible refine (H1.out _).mono ?_
        rintro e w1 ⟨rfl, rfl⟩
        go_wp2_with fail
        with_reducible refine (H2.out _).mono ?_
        rintro e w1 ⟨rfl, rfl⟩
        go_wp2_with fail
        with_reducible refine (H3.out _).mono ?_
        rintro e w1 ⟨rfl, rfl⟩
        go_wp2_with fail
        with_reducible refine (H4.out _).mono ?_
        rintro e w1 ⟨rfl, rfl⟩
        go_wp2_with fail
        with_reducible refine (alive_any _).mono ?_
        rintro e v1 ⟨rfl, hbel⟩
        have HBL1 := Lib.hid hbel
        clear hbel
        go_wp2_with fail
        with_reducible refine (H5.out _).mono ?_
        rintro e w1 ⟨rfl, rfl⟩
        go_wp2_with fail
        with_reducible refine (H6.out _).mono ?_
        rintro e w1 ⟨rfl, rfl⟩
        go_wp2_with fail
        go_ret
        exact ⟨rfl, HBL1.out⟩
  · rw [e1] at H1
    rw [e2] at H2
    have hpq : ¬ p = q := fun h => by have := hi.2 h; omega
    have hpq2 : ((p : Int) == (q : Int)) = false := by rw [beq_eq_false_iff_ne]; omega
    rcases cmp_cases y z with ⟨g3, e3, _⟩ | ⟨g3, e3, _⟩ | ⟨g3, e3, _⟩
    · rw [e3] at H3
      rcases cmp_cases x z with ⟨g4, e4, _⟩ | ⟨g4, e4, _⟩ | ⟨g4, e4, _⟩
      · rw [e4] at H4
        clear hi g1 g3 g4 e1 e2 e3 e4
        go_enter Try.func4, Try.ntmps4
        go_wp2_with fail
        with_reducible refine (H1.out _).mono ?_
        rintro e w1 ⟨rfl, rfl⟩
        go_wp2_with fail
        with_reducible refine (H2.out _).mono ?_
        rintro e w1 ⟨rfl, rfl⟩
        go_wp2_with fail
        with_reducible refine (H3.out _).mono ?_
        rintro e w1 ⟨rfl, rfl⟩
        go_wp2_with fail
        with_reducible refine (H4.out _).mono ?_
        rintro e w1 ⟨rfl, rfl⟩
        go_wp2_with fail
        with_reducible refine (alive_any _).mono ?_
        rintro e v1 ⟨rfl, hbel⟩
        have HBL1 := Lib.hid hbel
        clear hbel
        go_wp2_with fail
        with_reducible refine (H5.out _).mono ?_
        rintro e w1 ⟨rfl, rfl⟩
        go_wp2_with fail
        with_reducible refine (H6.out _).mono ?_
        rintro e w1 ⟨rfl, rfl⟩
        go_wp2_with fail
        go_ret
        exact ⟨rfl, HBL1.out⟩
      · rw [e4] at H4
        clear hi g1 g3 g4 e1 e2 e3 e4
        go_enter Try.func4, Try.ntmps4
        go_wp2_with fail
        with_reducible refine (H1.out _).mono ?_
        rintro e w1 ⟨rfl, rfl⟩
        go_wp2_with fail
        with_reducible refine (H2.out _).mono ?_
        rintro e w1 ⟨rfl, rfl⟩
        go_wp2_with fail
        with_reducible refine (H3.out _).mono ?_
        rintro e w1 ⟨rfl, rfl⟩
        go_wp2_with fail
        with_reducible refine (H4.out _).mono ?_
        rintro e w1 ⟨rfl, rfl⟩
        go_wp2_with fail
        with_reducible refine (alive_any _).mono ?_
        rintro e v1 ⟨rfl, hbel⟩
        have HBL1 := Lib.hid hbel
        clear hbel
        go_wp2_with fail
        with_reducible refine (H5.out _).mono ?_
        rintro e w1 ⟨rfl, rfl⟩
        go_wp2_with fail
        with_reducible refine (H6.out _).mono ?_
        rintro e w1 ⟨rfl, rfl⟩
        go_wp2_with fail
        go_ret
        exact ⟨rfl, HBL1.out⟩
      · rw [e4] at H4
        clear hi g1 g3 g4 e1 e2 e3 e4
        go_enter Try.func4, Try.ntmps4
        go_wp2_with fail
        with_reducible refine (H1.out _).mono ?_
        rintro e w1 ⟨rfl, rfl⟩
        go_wp2_with fail
        with_reducible refine (H2.out _).mono ?_
        rintro e w1 ⟨rfl, rfl⟩
        go_wp2_with fail
        with_reducible refine (H3.out _).mono ?_
        rintro e w1 ⟨rfl, rfl⟩
        go_wp2_with fail
        with_reducible refine (H4.out _).mono ?_
        rintro e w1 ⟨rfl, rfl⟩
        go_wp2_with fail
        with_reducible refine (alive_any _).mono ?_
        rintro e v1 ⟨rfl, hbel⟩
        have HBL1 := Lib.hid hbel
        clear hbel
        go_wp2_with fail
        with_reducible refine (H5.out _).mono ?_
        rintro e w1 ⟨rfl, rfl⟩
        go_wp2_with fail
        with_reducible refine (H6.out _).mono ?_
        rintro e w1 ⟨rfl, rfl⟩
        go_wp2_with fail
        go_ret
        exact ⟨rfl, HBL1.out⟩
    · rw [e3] at H3
      rcases cmp_cases x z with ⟨g4, e4, _⟩ | ⟨g4, e4, _⟩ | ⟨g4, e4, _⟩
      · exact absurd g4 (by omega)
      · exact absurd g4 (by omega)
      · rw [e4] at H4
        clear hi g1 g3 g4 e1 e2 e3 e4
        go_enter Try.func4, Try.ntmps4
        go_wp2_with fail
        with_reducible refine (H1.out _).mono ?_
        rintro e w1 ⟨rfl, rfl⟩
        go_wp2_with fail
        with_reducible refine (H2.out _).mono ?_
        rintro e w1 ⟨rfl, rfl⟩
        go_wp2_with fail
        with_reducible refine (H3.out _).mono ?_
        rintro e w1 ⟨rfl, rfl⟩
        go_wp2_with fail
        with_reducible refine (H4.out _).mono ?_
        rintro e w1 ⟨rfl, rfl⟩
        go_wp2_with fail
        with_reducible refine (alive_any _).mono ?_
        rintro e v1 ⟨rfl, hbel⟩
        have HBL1 := Lib.hid hbel
        clear hbel
        go_wp2_with fail
        with_reducible refine (H5.out _).mono ?_
        rintro e w1 ⟨rfl, rfl⟩
        go_wp2_with fail
        with_reducible refine (H6.out _).mono ?_
        rintro e w1 ⟨rfl, rfl⟩
        go_wp2_with fail
        go_ret
        exact ⟨rfl, HBL1.out⟩
    · rw [e3] at H3
      rcases cmp_cases x z with ⟨g4, e4, _⟩ | ⟨g4, e4, _⟩ | ⟨g4, e4, _⟩
      · exact absurd g4 (by omega)
      · exact absurd g4 (by omega)
      · rw [e4] at H4
        clear hi g1 g3 g4 e1 e2 e3 e4
        go_enter Try.func4, Try.ntmps4
        go_wp2_with fail
        with_reducible refine (H1.out _).mono ?_
        rintro e w1 ⟨rfl, rfl⟩
        go_wp2_with fail
        with_reducible refine (H2.out _).mono ?_
        rintro e w1 ⟨rfl, rfl⟩
        go_wp2_with fail
        with_reducible refine (H3.out _).mono ?_
        rintro e w1 ⟨rfl, rfl⟩
        go_wp2_with fail
        with_reducible refine (H4.out _).mono ?_
        rintro e w1 ⟨rfl, rfl⟩
        go_wp2_with fail
        with_reducible refine (alive_any _).mono ?_
        rintro e v1 ⟨rfl, hbel⟩
        have HBL1 := Lib.hid hbel
        clear hbel
        go_wp2_with fail
        with_reducible refine (H5.out _).mono ?_
        rintro e w1 ⟨rfl, rfl⟩
        go_wp2_with fail
        with_reducible refine (H6.out _).mono ?_
        rintro e w1 ⟨rfl, rfl⟩
        go_wp2_with fail
        go_ret
        exact ⟨rfl, HBL1.out⟩

set_option maxRecDepth 100000 in
theorem lifted (os : Os) (started : os.Started) (H : Type) (enc : TypeId × Value → H) :
    ReturnsInHanded {} Try.checked os 4 .any (Rows.levelLineSpec.pre6 enc Try.prog Try.f4 Rows.levelLineRow.domain false) (Rows.levelLineSpec.post enc Try.prog Try.f4 false true false false) := by
  refine returnsInHanded_of_change (C := Try.checked) own started (by kernel_rfl) Try.func4
    (ChangeSpec.witness6 (enc := enc) (C := Try.checked) false ⟨#[], #[.float .f64 0, .float .f64 0, .float .f64 0], []⟩ 8 (by kernel_rfl) (by kernel_rfl) (by kernel_rfl) (by kernel_rfl)) ?_
  intro W base args ds gs before hval0 hW hcnd _
  have hval : ∀ (j : Nat) t v, Try.f4.params[j]? = some t → args[j]? = some v → Value.okWide Try.prog W .any base t v := hval0
  have hW' := hW
  obtain ⟨p, q, hA0, hV, rfl, hfz, hnd⟩ := hW
  have hA : DataW.TrodAll enc Try.prog W 0 (fun _ => true) true Try.f4.params.toList args.toList ds p := hA0
  rw [Try.params4] at hA hval
  obtain ⟨v0, vs0, d0, ds0, p0, q0, hargs, rfl, rfl, h0, r0⟩ := trodAll_cons hA
  obtain ⟨v1, vs1, d1, ds1, p1, q1, rfl, rfl, rfl, h1, r1⟩ := trodAll_cons r0
  obtain ⟨v2, vs2, d2, ds2, p2, q2, rfl, rfl, rfl, h2, r2⟩ := trodAll_cons r1
  obtain ⟨rfl, rfl, rfl⟩ := trodAll_nil r2
  obtain rfl : args = #[v0, v1, v2] := by cases args; simp_all
  obtain ⟨rfl, rfl⟩ := trodVars_none hV
  have k0 := h0
  have lt0 : ∀ x ∈ p0, x.block < W.heap.size := by obtain ⟨m, hm⟩ := k0; exact DataW.trod_lt m _ _ _ hm
  have k1 := h1
  have lt1 : ∀ x ∈ p1, x.block < W.heap.size := by obtain ⟨m, hm⟩ := k1; exact DataW.trod_lt m _ _ _ hm
  have k2 := h2
  have lt2 : ∀ x ∈ p2, x.block < W.heap.size := by obtain ⟨m, hm⟩ := k2; exact DataW.trod_lt m _ _ _ hm
  obtain ⟨a0, rfl, w0⟩ := open_f64 (hval 0 22 v0 rfl rfl) h0
  obtain ⟨a1, rfl, w1⟩ := open_f64 (hval 1 22 v1 rfl rfl) h1
  obtain ⟨a2, rfl, w2⟩ := open_f64 (hval 2 22 v2 rfl rfl) h2
  clear hA0 hval0
  refine (walk a0 w0 a1 w1 a2 w2 W).mono fun e W' ⟨he, bel⟩ => ?_
  subst he
  exact ⟨_, rfl, _, _, _, [], _, [], hW', trodAll_mk1 (shut_bool Try.underlying4 _), (trodAll_cons_mk (Below.trod laidOut (by kernel_rfl) (of_decide_eq_true (by kernel_rfl)) k0 bel lt0) (trodAll_cons_mk (Below.trod laidOut (by kernel_rfl) (of_decide_eq_true (by kernel_rfl)) k1 bel lt1) (trodAll_cons_mk (Below.trod laidOut (by kernel_rfl) (of_decide_eq_true (by kernel_rfl)) k2 bel lt2) trodAll_mk0))), rfl, bel.frame _, fun h => by cases h⟩

theorem over : Rows.levelLineRow.holds Try.pinned (OpenSpec.ofChange Rows.levelLineSpec) :=
  OpenClaim.holds_of_wide 4 Try.f4 rfl rfl rfl rfl rfl rfl rfl ⟨rfl, rfl, rfl, rfl, rfl⟩ rfl rfl rfl rfl rfl (by kernel_rfl) Try.func4 (by kernel_rfl)
    (of_decide_eq_true (by kernel_rfl)) (by unfold Func.isWrapper; first | (rw [if_pos (by decide +kernel)]; kernel_rfl) | (rw [if_neg (by decide +kernel)]; exact ⟨rfl, rfl⟩))
    (fun os started H enc _ => lifted os started H enc)

/-- The statement. -/
theorem proved : Rows.LevelLineSaid := over
#print axioms proved
end Go.Proofs.Ytpbdlmkcomnjbaa.levelLine

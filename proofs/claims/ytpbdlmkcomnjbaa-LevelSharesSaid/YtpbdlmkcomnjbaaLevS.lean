/- What this text proves: the contract of the reference's Exceeds, whole. The conditions are that bits are bits. -/
import Derived.Test.YtpbdlmkcomnjbaaLevK2
namespace Go.Proofs.Ytpbdlmkcomnjbaa
open Go.RowKit
set_option linter.unusedVariables false
set_option linter.unusedSimpArgs false

theorem wmul {x y z : Nat} (h : x * y = z) (hz : z < 18446744073709551616) : IntKind.u64.wrap ((x : Int) * (y : Int)) = z := by
  rw [← Int.natCast_mul, h]
  exact wrap_u64 z hz
theorem wadd {x y z : Nat} (h : x + y = z) (hz : z < 18446744073709551616) : IntKind.u64.wrap ((x : Int) + (y : Int)) = z := by
  rw [← Int.natCast_add, h]
  exact wrap_u64 z hz
theorem wmod (x : Nat) : IntKind.u64.wrap (x : Int) = ((x % 18446744073709551616 : Nat) : Int) := by
  have : IntKind.u64.wrap (x : Int) = (x : Int) % 18446744073709551616 := by rfl
  omega
theorem pos_big {p T m S : Nat} (hTm : T * m < 1125899906842625 * 9007199254740992) (h128 : 128 ≤ S) : decide (T * m < p * 2 ^ S) = decide (0 < p) := by
  by_cases h0 : p = 0
  · subst h0; simp
  · have hge : 2 ^ 128 ≤ p * 2 ^ S := by
      calc 2 ^ 128 ≤ 2 ^ S := Nat.pow_le_pow_right (by decide) h128
        _ = 1 * 2 ^ S := by rw [Nat.one_mul]
        _ ≤ p * 2 ^ S := Nat.mul_le_mul_right _ (by omega)
    rw [decide_eq_true (by omega : 0 < p)]
    refine decide_eq_true ?_
    refine Nat.lt_of_lt_of_le hTm (Nat.le_trans ?_ hge)
    decide
theorem sh_div {p S : Nat} (hS : S < 64) : p * 2 ^ S / 18446744073709551616 = p / 2 ^ (64 - S) := by
  rw [show (18446744073709551616 : Nat) = 2 ^ (64 - S) * 2 ^ S by rw [← Nat.pow_add, Nat.sub_add_cancel (by omega)]]
  exact Nat.mul_div_mul_right _ _ (Nat.two_pow_pos _)
theorem lex64 {p N S hi lo : Nat} (hN : N = hi * 18446744073709551616 + lo) (hlo : lo < 18446744073709551616) (hhi : hi < 18446744073709551615) (h1 : 64 ≤ S) (h2 : S < 128) : (decide (0 < p / 2 ^ (128 - S)) || decide (hi < p * 2 ^ (S - 64) % 18446744073709551616)) = decide (N < p * 2 ^ S) := by
  have e1 : p * 2 ^ S = p * 2 ^ (S - 64) * 18446744073709551616 := by
    rw [Nat.mul_assoc, show (18446744073709551616 : Nat) = 2 ^ 64 from rfl, ← Nat.pow_add, Nat.sub_add_cancel h1]
  have e2 : 0 < p / 2 ^ (128 - S) ↔ 18446744073709551616 ≤ p * 2 ^ (S - 64) := by
    have e3 : (18446744073709551616 : Nat) = 2 ^ (128 - S) * 2 ^ (S - 64) := by rw [← Nat.pow_add, show 128 - S + (S - 64) = 64 by omega]
    rw [e3, Nat.mul_le_mul_right_iff (Nat.two_pow_pos _), Nat.div_pos_iff]
    exact ⟨fun h => h.2, fun h => ⟨Nat.two_pow_pos _, h⟩⟩
  rw [e1]
  obtain ⟨Q, hQ⟩ : ∃ Q, p * 2 ^ (S - 64) = Q := ⟨_, rfl⟩
  rw [hQ] at e2 ⊢
  by_cases h : 0 < p / 2 ^ (128 - S)
  · rw [decide_eq_true h, Bool.true_or]
    have := e2.1 h
    exact (decide_eq_true (by omega)).symm
  · rw [decide_eq_false h, Bool.false_or]
    have hlt : Q < 18446744073709551616 := by
      rcases Nat.lt_or_ge Q 18446744073709551616 with h3 | h3
      · exact h3
      · exact absurd (e2.2 h3) h
    rw [Nat.mod_eq_of_lt hlt]
    by_cases h4 : hi < Q
    · rw [decide_eq_true h4]; exact (decide_eq_true (by omega)).symm
    · rw [decide_eq_false h4]; exact (decide_eq_false (by omega)).symm
set_option maxHeartbeats 1000000 in
theorem rexceeds_any (part total : Int) (b : Nat) (hb : b < 18446744073709551616) (hp : part ≤ 9223372036854775807) (w : World) : Calls Try.prog 12 #[.int .i64 part, .int .i64 total, .float .f64 b] w fun e w' => e = .returned (.tuple #[.bool (excF part total b).1, .int .i64 (excF part total b).2]) ∧ w' = w := by
  have H1 := Lib.hid (right_any b hb)
  have H2 := Lib.hid (parts_any b hb)
  unfold excF
  by_cases hlev : 0 < b ∧ b ≤ one64
  · rw [if_pos hlev]
    rw [decide_eq_true hlev] at H1
    by_cases h1 : part < 0
    · rw [if_pos (.inl h1)]
      have e1 : decide (part < 0) = true := decide_eq_true h1
      go_enter Try.func12, Try.ntmps12
      go_wp2_with fail
      with_reducible refine (H1.out _).mono ?_
      rintro e w1 ⟨rfl, rfl⟩
      go_wp2_with fail
      go_ret2
      exact ⟨rfl, rfl⟩
    have e1 : decide (part < 0) = false := decide_eq_false h1
    by_cases h2 : total < 0
    · rw [if_pos (.inr (.inl h2))]
      have e2 : decide (total < 0) = true := decide_eq_true h2
      go_enter Try.func12, Try.ntmps12
      go_wp2_with fail
      with_reducible refine (H1.out _).mono ?_
      rintro e w1 ⟨rfl, rfl⟩
      go_wp2_with fail
      go_ret2
      exact ⟨rfl, rfl⟩
    have e2 : decide (total < 0) = false := decide_eq_false h2
    by_cases h3 : 1125899906842624 < total
    · rw [if_pos (.inr (.inr h3))]
      have e3 : decide (1125899906842624 < total) = true := decide_eq_true h3
      go_enter Try.func12, Try.ntmps12
      go_wp2_with fail
      with_reducible refine (H1.out _).mono ?_
      rintro e w1 ⟨rfl, rfl⟩
      go_wp2_with fail
      go_ret2
      exact ⟨rfl, rfl⟩
    have e3 : decide (1125899906842624 < total) = false := decide_eq_false h3
    rw [if_neg (fun h => by omega)]
    obtain ⟨p, rfl⟩ : ∃ p : Nat, part = p := ⟨part.toNat, by omega⟩
    obtain ⟨T, rfl⟩ : ∃ T : Nat, total = T := ⟨total.toNat, by omega⟩
    rw [Int.toNat_natCast, Int.toNat_natCast]
    obtain ⟨S, hX, hS1, hS2, hm, hex⟩ := excB_ref (p := p) (T := T) hlev.1 hlev.2
    have o1 : one64 = 4607182418800017408 := rfl
    rw [hX, sg_pos (by omega)] at H2
    rw [hex]
    obtain ⟨m, hme⟩ : ∃ m, partM b = m := ⟨_, rfl⟩
    rw [hme] at H2 hm ⊢
    have hTn : T ≤ 1125899906842624 := by omega
    have hTm : T * m < 1125899906842625 * 9007199254740992 := Nat.mul_lt_mul_of_lt_of_lt (by omega) hm
    obtain ⟨t1, q1⟩ : ∃ x, T / 4294967296 = x := ⟨_, rfl⟩
    obtain ⟨t0, q2⟩ : ∃ x, T % 4294967296 = x := ⟨_, rfl⟩
    obtain ⟨m1, q3⟩ : ∃ x, m / 4294967296 = x := ⟨_, rfl⟩
    obtain ⟨m0, q4⟩ : ∃ x, m % 4294967296 = x := ⟨_, rfl⟩
    obtain ⟨a, qa⟩ : ∃ x, t1 * m1 = x := ⟨_, rfl⟩
    obtain ⟨x1, qx1⟩ : ∃ x, t1 * m0 = x := ⟨_, rfl⟩
    obtain ⟨x2, qx2⟩ : ∃ x, t0 * m1 = x := ⟨_, rfl⟩
    obtain ⟨c, qc⟩ : ∃ x, t0 * m0 = x := ⟨_, rfl⟩
    obtain ⟨bb, qb⟩ : ∃ x, x1 + x2 = x := ⟨_, rfl⟩
    obtain ⟨d, qd⟩ : ∃ x, bb * 4294967296 % 18446744073709551616 = x := ⟨_, rfl⟩
    obtain ⟨lo, ql⟩ : ∃ x, (c + d) % 18446744073709551616 = x := ⟨_, rfl⟩
    obtain ⟨b1, q5⟩ : ∃ x, bb / 4294967296 = x := ⟨_, rfl⟩
    obtain ⟨h0, qh⟩ : ∃ x, a + b1 = x := ⟨_, rfl⟩
    obtain ⟨k1, k2, k3, k4, k5, k6, k7⟩ := split_tm T m hTn hm q1 q2 q3 q4 qa qx1 qx2 qc qb qd ql q5 qh
    have f1 : (T : Int) / 4294967296 = t1 := by omega
    have f2 : (T : Int) % 4294967296 = t0 := by omega
    have f3 : (m : Int) / 4294967296 = m1 := by omega
    have f4 : (m : Int) % 4294967296 = m0 := by omega
    have f5 : (bb : Int) / 4294967296 = b1 := by omega
    have fd : IntKind.u64.wrap ((bb : Int) * 4294967296) = d := by
      have h := wmod (bb * 4294967296)
      rw [qd, Int.natCast_mul] at h
      exact h
    have fl : IntKind.u64.wrap ((c : Int) + (d : Int)) = lo := by
      have h := wmod (c + d)
      rw [ql, Int.natCast_add] at h
      exact h
    have fh : Hid (IntKind.u64.wrap ((h0 : Int) + 1) = (h0 + 1 : Nat)) := Lib.hid (wadd (x := h0) (y := 1) rfl (by omega))
    have hpn : p < 9223372036854775808 := by omega
    have g1 := wmul qa k1
    have g2 := wmul qx1 (by omega)
    have g3 := wmul qx2 (by omega)
    have g4 := wmul qc k4
    have g5 := wadd qb (by omega)
    have g6 := wadd qh (by omega)
    have HT : (T : Int) ≤ 1125899906842624 := by omega
    have HM : (m : Int) < 9007199254740992 := by omega
    have HS : (S : Int) ≤ 1074 := by omega
    clear q1 q2 q3 q4 qa qx1 qx2 qc qb qd ql q5 qh hex hX
    by_cases hcar : lo < c
    · rw [if_pos hcar] at k7
      rcases Nat.lt_or_ge S 128 with hS | hS
      · rcases Nat.lt_or_ge S 64 with hS6 | hS6
        · rw [← lex (N := T * m) (T := p * 2 ^ S) (hi := (h0 + 1)) (lo := lo) (up := p / 2 ^ (64 - S)) (dn := p * 2 ^ S % 18446744073709551616) k7 (by rw [← sh_div hS6]; omega) k5 (by omega)]
          exact rexc_c0 p T b m S HT HM hp H1 H2 e1 e2 e3 t1 t0 m1 m0 a x1 x2 c bb d lo b1 h0 (h0 + 1) f1 f2 f3 f4 g1 g2 g3 g4 g5 fd fl f5 g6 fh HS (Lib.hid hcar) (Lib.hid hS6) (p / 2 ^ (64 - S)) (p * 2 ^ S % 18446744073709551616) (Lib.hid (by rw [Int.natCast_ediv, Int.natCast_pow]; rfl)) (Lib.hid (by rw [← wmod, Int.natCast_mul, Int.natCast_pow]; rfl)) w
        · rw [← lex64 (p := p) (N := T * m) (S := S) (hi := (h0 + 1)) (lo := lo) k7 k5 (by omega) hS6 hS]
          exact rexc_c64 p T b m S HT HM hp H1 H2 e1 e2 e3 t1 t0 m1 m0 a x1 x2 c bb d lo b1 h0 (h0 + 1) f1 f2 f3 f4 g1 g2 g3 g4 g5 fd fl f5 g6 fh HS (Lib.hid hcar) (Lib.hid ⟨hS6, hS⟩) (p / 2 ^ (128 - S)) (p * 2 ^ (S - 64) % 18446744073709551616) (Lib.hid (by rw [Int.natCast_ediv, Int.natCast_pow]; rfl)) (Lib.hid (by rw [← wmod, Int.natCast_mul, Int.natCast_pow]; rfl)) w
      · rw [pos_big hTm hS]
        exact rexc_c128 p T b m S HT HM hp H1 H2 e1 e2 e3 t1 t0 m1 m0 a x1 x2 c bb d lo b1 h0 (h0 + 1) f1 f2 f3 f4 g1 g2 g3 g4 g5 fd fl f5 g6 fh HS (Lib.hid hcar) (Lib.hid hS) w
    · rw [if_neg hcar] at k7
      rcases Nat.lt_or_ge S 128 with hS | hS
      · rcases Nat.lt_or_ge S 64 with hS6 | hS6
        · rw [← lex (N := T * m) (T := p * 2 ^ S) (hi := h0) (lo := lo) (up := p / 2 ^ (64 - S)) (dn := p * 2 ^ S % 18446744073709551616) k7 (by rw [← sh_div hS6]; omega) k5 (by omega)]
          exact rexc_n0 p T b m S HT HM hp H1 H2 e1 e2 e3 t1 t0 m1 m0 a x1 x2 c bb d lo b1 h0 (h0 + 1) f1 f2 f3 f4 g1 g2 g3 g4 g5 fd fl f5 g6 fh HS (Lib.hid hcar) (Lib.hid hS6) (p / 2 ^ (64 - S)) (p * 2 ^ S % 18446744073709551616) (Lib.hid (by rw [Int.natCast_ediv, Int.natCast_pow]; rfl)) (Lib.hid (by rw [← wmod, Int.natCast_mul, Int.natCast_pow]; rfl)) w
        · rw [← lex64 (p := p) (N := T * m) (S := S) (hi := h0) (lo := lo) k7 k5 (by omega) hS6 hS]
          exact rexc_n64 p T b m S HT HM hp H1 H2 e1 e2 e3 t1 t0 m1 m0 a x1 x2 c bb d lo b1 h0 (h0 + 1) f1 f2 f3 f4 g1 g2 g3 g4 g5 fd fl f5 g6 fh HS (Lib.hid hcar) (Lib.hid ⟨hS6, hS⟩) (p / 2 ^ (128 - S)) (p * 2 ^ (S - 64) % 18446744073709551616) (Lib.hid (by rw [Int.natCast_ediv, Int.natCast_pow]; rfl)) (Lib.hid (by rw [← wmod, Int.natCast_mul, Int.natCast_pow]; rfl)) w
      · rw [pos_big hTm hS]
        exact rexc_n128 p T b m S HT HM hp H1 H2 e1 e2 e3 t1 t0 m1 m0 a x1 x2 c bb d lo b1 h0 (h0 + 1) f1 f2 f3 f4 g1 g2 g3 g4 g5 fd fl f5 g6 fh HS (Lib.hid hcar) (Lib.hid hS) w
  · rw [if_neg hlev]
    rw [decide_eq_false hlev] at H1
    go_enter Try.func12, Try.ntmps12
    go_wp2_with fail
    with_reducible refine (H1.out _).mono ?_
    rintro e w1 ⟨rfl, rfl⟩
    go_wp2_with fail
    go_ret2
    exact ⟨rfl, rfl⟩
end Go.Proofs.Ytpbdlmkcomnjbaa

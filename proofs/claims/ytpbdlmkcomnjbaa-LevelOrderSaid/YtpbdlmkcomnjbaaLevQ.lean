/- What this text proves: plain facts on floating numbers: whole numbers, and their quotients by powers of two. No condition. -/
import Derived.Test.YtpbdlmkcomnjbaaLevJ
namespace Go.Proofs.Ytpbdlmkcomnjbaa
open Ieee Go.RowKit
set_option linter.unusedVariables false
set_option linter.unusedSimpArgs false

/-- The rung of m times two to the power of s (above the least). -/
def rnd (m s : Nat) : Nat := (m.log2 + s - 52) * bin + m * 2 ^ (52 - m.log2)
theorem rnd_facts {m s : Nat} (h0 : 0 < m) (hm : m.log2 ≤ 52) (hs : 52 ≤ m.log2 + s) : bin ≤ rnd m s ∧ mg (rnd m s) = m * 2 ^ (52 - m.log2) ∧ pl (rnd m s) = m.log2 + s - 52 ∧ val (rnd m s) = m * 2 ^ s ∧ (mg (rnd m s)).log2 = 52 ∧ rnd m s < (m.log2 + s - 50) * bin := by
  have hb : bin = 2 ^ 52 := by decide
  have hbp : 0 < bin := by decide
  have g1 : bin ≤ m * 2 ^ (52 - m.log2) := by
    calc bin = 2 ^ m.log2 * 2 ^ (52 - m.log2) := by rw [← Nat.pow_add, hb]; congr 1; omega
      _ ≤ m * 2 ^ (52 - m.log2) := Nat.mul_le_mul_right _ (Nat.log2_self_le (by omega))
  have g2 : m * 2 ^ (52 - m.log2) < 2 * bin := by
    calc m * 2 ^ (52 - m.log2) < 2 ^ (m.log2 + 1) * 2 ^ (52 - m.log2) := Nat.mul_lt_mul_of_pos_right Nat.lt_log2_self (Nat.two_pow_pos _)
      _ = 2 * bin := by rw [← Nat.pow_add, hb, show m.log2 + 1 + (52 - m.log2) = 53 by omega]
  obtain ⟨f, hf⟩ : ∃ f, m * 2 ^ (52 - m.log2) - bin = f := ⟨_, rfl⟩
  obtain ⟨e, he⟩ : ∃ e, m.log2 + s - 52 = e := ⟨_, rfl⟩
  have hr : rnd m s = (e + 1) * bin + f := by unfold rnd; rw [he, Nat.add_mul, Nat.one_mul]; omega
  have e2 : rnd m s / bin = e + 1 := by rw [hr, Nat.add_comm, Nat.add_mul_div_right _ _ hbp, Nat.div_eq_of_lt (by omega), Nat.zero_add]
  have e3 : rnd m s % bin = f := by rw [hr, Nat.add_comm, Nat.add_mul_mod_self_right, Nat.mod_eq_of_lt (by omega)]
  have hge : bin ≤ rnd m s := by rw [hr, Nat.add_mul]; omega
  have m1 : mg (rnd m s) = m * 2 ^ (52 - m.log2) := by unfold mg; rw [if_neg (by omega), e3]; omega
  have p1 : pl (rnd m s) = e := by unfold pl; rw [e2, Nat.add_sub_cancel]
  refine ⟨hge, m1, by rw [p1, he], ?_, ?_, ?_⟩
  · unfold val
    rw [m1, p1, Nat.mul_assoc, ← Nat.pow_add, show 52 - m.log2 + e = s by omega]
  · rw [m1]
    exact log2_eq (by rw [← hb]; exact g1) (by rw [Nat.pow_succ, ← hb]; omega)
  · rw [hr, show m.log2 + s - 50 = e + 2 by omega, Nat.add_mul, Nat.add_mul]
    omega
theorem of_whole {n : Nat} (h0 : 0 < n) (hn : n.log2 ≤ 52) : FloatKind.f64.nearest (n : Int) = rnd n tho := by
  have ht : tho = 1074 := rfl
  obtain ⟨f1, f2, f3, f4, f5, f6⟩ := rnd_facts (s := tho) h0 hn (by omega)
  have hbn : bin = 4503599627370496 := rfl
  have hi : infR = 2047 * bin := by decide
  have hlt : rnd n tho < infR := by
    rw [hi]
    exact Nat.lt_of_lt_of_le f6 (Nat.mul_le_mul_right _ (by omega))
  have e : FloatKind.f64.nearest (n : Int) = double.nearest (decide ((n : Int) < 0)) (n : Int).natAbs 0 := rfl
  rw [e, Int.natAbs_natCast, decide_eq_false (by omega)]
  rw [nearest_exact false n 0 (rnd n tho) (by omega) (by omega) (by rw [f4, show ((-1074 : Int) - 0).toNat = 0 from rfl, Nat.pow_zero, Nat.mul_one, show ((0 : Int) + 1074).toNat = tho from rfl])]
  rfl
theorem quot_whole {t : TypeId} {n k : Nat} (h0 : 0 < n) (hn : n.log2 ≤ 52) (hk : k ≤ 52) : binOp .quo t (fl (rnd n tho)) (fl (rnd (2 ^ k) tho)) = pure (fl (rnd n (tho - k))) := by
  have ht : tho = 1074 := rfl
  have hbn : bin = 4503599627370496 := rfl
  have hi : infR = 2047 * bin := by decide
  have hlk : (2 ^ k : Nat).log2 = k := log2_eq (Nat.le_refl _) (Nat.pow_lt_pow_right (by decide) (by omega))
  obtain ⟨f1, f2, f3, f4, f5, f6⟩ := rnd_facts (s := tho) h0 hn (by omega)
  obtain ⟨g1, g2, g3, g4, g5, g6⟩ := rnd_facts (m := 2 ^ k) (s := tho) (Nat.two_pow_pos k) (by omega) (by omega)
  obtain ⟨r1, r2, r3, r4, r5, r6⟩ := rnd_facts (s := tho - k) h0 hn (by omega)
  have b1 : rnd n tho < infR := by rw [hi]; exact Nat.lt_of_lt_of_le f6 (Nat.mul_le_mul_right _ (by omega))
  have b2 : rnd (2 ^ k) tho < infR := by rw [hi]; exact Nat.lt_of_lt_of_le g6 (Nat.mul_le_mul_right _ (by omega))
  have b3 : rnd n (tho - k) < infR := by rw [hi]; exact Nat.lt_of_lt_of_le r6 (Nat.mul_le_mul_right _ (by omega))
  have hmy : mg (rnd (2 ^ k) tho) = 2 ^ 52 := by rw [g2, hlk, ← Nat.pow_add, show k + (52 - k) = 52 by omega]
  have h2 : double.div (rnd n tho) (rnd (2 ^ k) tho) = some (rnd n (tho - k)) := by
    unfold Format.div
    rw [read_pos b1, read_pos b2, hmy]
    obtain ⟨M, hM⟩ : ∃ M, mg (rnd n tho) = M := ⟨_, rfl⟩
    rw [hM] at f2 f5 ⊢
    have hq : Datum.quotient (double.fractionBits + 2) (.number false M (-1074 + (pl (rnd n tho) : Int))) (.number false (2 ^ 52) (-1074 + (pl (rnd (2 ^ k) tho) : Int))) = some (.number false (8 * M) ((n.log2 : Int) - k - 55)) := by
      unfold Datum.quotient
      simp only
      rw [if_neg (by decide)]
      have hmore : double.fractionBits + 2 + (2 ^ 52 : Nat).log2 - M.log2 = 54 := by rw [f5]; decide
      rw [hmore, f3, g3, hlk]
      have hd : M <<< 54 = M * 4 * 2 ^ 52 := by rw [Nat.shiftLeft_eq, Nat.mul_assoc]
      rw [hd, Nat.mul_div_cancel _ (by decide), Nat.mul_mod_left]
      have h1 : (false ^^ false) = false := rfl
      have h3 : ((0 : Nat) != 0).toNat = 0 := rfl
      rw [h1, h3]
      have h4 : 2 * (M * 4) + 0 = 8 * M := by omega
      have hpl : (-1074 + ((n.log2 + tho - 52 : Nat) : Int)) - (-1074 + ((k + tho - 52 : Nat) : Int)) - ((54 : Nat) : Int) - 1 = (n.log2 : Int) - k - 55 := by omega
      rw [h4, hpl]
    rw [hq]
    simp only [Option.map_some]
    congr 1
    show double.nearest _ _ _ = _
    rw [nearest_exact false (8 * M) _ (rnd n (tho - k)) (by omega) (by omega) ?_]
    · rfl
    · rw [r4, f2, show (-1074 - ((n.log2 : Int) - k - 55)).toNat = 0 by omega, Nat.pow_zero, Nat.mul_one, show (8 : Nat) = 2 ^ 3 from rfl, ← Nat.mul_assoc, Nat.mul_comm (2 ^ 3) n, Nat.mul_assoc n, Nat.mul_assoc n, ← Nat.pow_add, ← Nat.pow_add]
      congr 2
      omega
  have e : binOp .quo t (fl (rnd n tho)) (fl (rnd (2 ^ k) tho)) = Op.floatArith .quo .f64 (rnd n tho) (rnd (2 ^ k) tho) := rfl
  have h3 : FloatKind.f64.format.div (rnd n tho) (rnd (2 ^ k) tho) = some (rnd n (tho - k)) := h2
  rw [e]
  simp [Op.floatArith, h3]
theorem val_one' : val one64 = big := by
  have h1 : mg one64 = 2 ^ 52 := by decide
  have h2 : 52 + pl one64 = tho := by decide
  unfold val big
  rw [h1, pow_two_add, h2]
/-- What a part is of such a level. -/
theorem exc_half {p T n k : Nat} (h0 : 0 < n) (hn : n ≤ 2 ^ k) (hk : k ≤ 52) : (0 < rnd n (tho - k) ∧ rnd n (tho - k) ≤ one64) ∧ excB p T (rnd n (tho - k)) = decide (T * n < p * 2 ^ k) := by
  have ht : tho = 1074 := rfl
  have hl : n.log2 ≤ k := by
    have h1 : n < 2 ^ (k + 1) := by rw [Nat.pow_succ]; omega
    have := (Nat.log2_lt (by omega : n ≠ 0)).2 h1
    omega
  obtain ⟨r1, r2, r3, r4, r5, r6⟩ := rnd_facts (s := tho - k) h0 (by omega) (by omega)
  have hbp : 0 < bin := by decide
  have hbig : big = 2 ^ k * 2 ^ (tho - k) := by
    unfold big
    rw [pow_two_add, show k + (tho - k) = tho by omega]
  obtain ⟨Z, hZ⟩ : ∃ Z, 2 ^ (tho - k) = Z := ⟨_, rfl⟩
  have hZp : 0 < Z := hZ ▸ Nat.two_pow_pos _
  rw [hZ] at r4 hbig
  obtain ⟨K, hK⟩ : ∃ K, 2 ^ k = K := ⟨_, rfl⟩
  rw [hK] at hbig hn ⊢
  obtain ⟨r, hr⟩ : ∃ r, rnd n (tho - k) = r := ⟨_, rfl⟩
  rw [hr] at r1 r4 ⊢
  have hv1 := val_one'
  rw [hbig] at hv1
  clear r2 r3 r5 r6 hZ hK hr ht hl
  refine ⟨⟨by omega, ?_⟩, ?_⟩
  · rcases Nat.lt_or_ge one64 r with h | h
    · have h2 := val_lt h
      rw [hv1, r4] at h2
      have h3 : n * Z ≤ K * Z := Nat.mul_le_mul_right _ hn
      omega
    · exact h
  · unfold excB
    rw [r4, hbig, ← Nat.mul_assoc, ← Nat.mul_assoc, decide_eq_decide]
    exact Nat.mul_lt_mul_right hZp
end Go.Proofs.Ytpbdlmkcomnjbaa

/- What this text proves: the contracts of layer 1's shifted and Exceeds. The conditions are that bits are bits. -/
import Derived.Test.YtpbdlmkcomnjbaaLevG
import Derived.Test.YtpbdlmkcomnjbaaShelf
import Derived.BigQuiet
import Derived.Deep.QuietTactic
namespace Go.Proofs.Ytpbdlmkcomnjbaa
open Go.RowKit
set_option linter.unusedVariables false
set_option linter.unusedSimpArgs false

theorem bl_le : ∀ (f x : Nat), Lib.bitLenAux f x ≤ f
  | 0, _ => Nat.le_refl _
  | f + 1, x => by
    unfold Lib.bitLenAux
    split
    · omega
    · have := bl_le f (x / 2); omega
theorem bl_lt : ∀ (f x : Nat), x < 2 ^ f → x < 2 ^ Lib.bitLenAux f x
  | 0, _, h => h
  | f + 1, x, h => by
    unfold Lib.bitLenAux
    split
    · rename_i h0; subst h0; decide
    · have := bl_lt f (x / 2) (by rw [Nat.pow_succ] at h; omega)
      rw [Nat.add_comm 1, Nat.pow_succ]
      omega
theorem bl_ge : ∀ (f x : Nat), x ≠ 0 → x < 2 ^ f → 2 ^ Lib.bitLenAux f x ≤ 2 * x
  | 0, x, h0, h => by simp at h; omega
  | f + 1, x, h0, h => by
    unfold Lib.bitLenAux
    rw [if_neg h0]
    by_cases h1 : x / 2 = 0
    · rw [h1]
      have e : Lib.bitLenAux f 0 = 0 := by cases f <;> simp [Lib.bitLenAux]
      rw [e]
      omega
    · have := bl_ge f (x / 2) h1 (by rw [Nat.pow_succ] at h; omega)
      rw [Nat.add_comm 1, Nat.pow_succ]
      omega
theorem bitLen_le {n : Nat} : Lib.bitLen n ≤ 64 := bl_le 64 n
theorem bitLen_lt {n : Nat} (hn : n < 18446744073709551616) : n < 2 ^ Lib.bitLen n := bl_lt 64 n hn
theorem bitLen_ge {n : Nat} (h0 : n ≠ 0) (hn : n < 18446744073709551616) : 2 ^ Lib.bitLen n ≤ 2 * n := bl_ge 64 n h0 hn
/-- A number times a power of two, as two words. -/
def shF (n k : Nat) : Nat × Nat := if Lib.bitLen n + k > 128 then (18446744073709551615, 18446744073709551615) else (n * 2 ^ k / 18446744073709551616, n * 2 ^ k % 18446744073709551616)
theorem shifted_any (n k : Nat) (hn : n < 18446744073709551616) (hk : k < 128) (ki : Int) (hki : ki = k) (w : World) : Calls Try.prog 25 #[.int .u64 (n : Int), .int .i64 ki] w fun e w' => e = .returned (.tuple #[.int .u64 (shF n k).1, .int .u64 (shF n k).2]) ∧ Below w.heap.size w w' := by
  subst hki
  have HL := Lib.hid (Go.Proofs.Try.bits_Len64 (n : Int) w (by omega) (by omega))
  have hbl : Lib.bitLen n ≤ 64 := bitLen_le
  rw [Int.toNat_natCast] at HL
  have hsp := bitLen_lt hn
  unfold shF
  obtain ⟨L, hL⟩ : ∃ L, Lib.bitLen n = L := ⟨_, rfl⟩
  rw [hL] at HL hbl hsp ⊢
  have hLi : (L : Int) ≤ 64 := by omega
  have hki : (k : Int) < 128 := by omega
  by_cases h1 : L + k > 128
  · rw [if_pos h1]
    have e1 : decide (128 < (L : Int) + (k : Int)) = true := decide_eq_true (by omega)
    clear hL
    go_enter Try.func25, Try.ntmps25
    go_wp2_with fail
    with_reducible refine HL.out.mono ?_
    rintro e w1 ⟨rfl, rfl⟩
    go_wp2_with fail
    go_ret2
    exact ⟨rfl, Below.refl _ _⟩
  · rw [if_neg h1]
    have e1 : decide (128 < (L : Int) + (k : Int)) = false := decide_eq_false (by omega)
    by_cases h2 : 64 ≤ k
    · have e2 : decide (64 ≤ (k : Int)) = true := decide_eq_true (by omega)
      have h2i : (64 : Int) ≤ (k : Int) := by omega
      go_enter Try.func25, Try.ntmps25
      go_wp2_with fail
      with_reducible refine HL.out.mono ?_
      rintro e w1 ⟨rfl, rfl⟩
      go_wp2_with fail
      go_ret2
      have hlt : n * 2 ^ (k - 64) < 18446744073709551616 := by
        have h3 : n * 2 ^ (k - 64) < 2 ^ L * 2 ^ (k - 64) := Nat.mul_lt_mul_of_pos_right hsp (Nat.two_pow_pos _)
        rw [← Nat.pow_add] at h3
        exact Nat.lt_of_lt_of_le h3 (show 2 ^ (L + (k - 64)) ≤ 2 ^ 64 from Nat.pow_le_pow_right (by decide) (by omega))
      have hT : n * 2 ^ k = n * 2 ^ (k - 64) * 18446744073709551616 := by
        rw [Nat.mul_assoc, show (18446744073709551616 : Nat) = 2 ^ 64 from rfl, ← Nat.pow_add, Nat.sub_add_cancel h2]
      rw [hT, Nat.mul_div_cancel _ (by decide), Nat.mul_mod_left]
      refine ⟨?_, Below.refl _ _⟩
      show Ending.returned (.tuple #[.int .u64 (IntKind.u64.wrap ((n : Int) * 2 ^ (k - 64))), .int .u64 0]) = _
      rw [show (n : Int) * 2 ^ (k - 64) = ((n * 2 ^ (k - 64) : Nat) : Int) by rw [Int.natCast_mul, Int.natCast_pow]; rfl, wrap_u64 _ hlt]
      rfl
    · have e2 : decide (64 ≤ (k : Int)) = false := decide_eq_false (by omega)
      have h2i : (k : Int) < 64 := by omega
      go_enter Try.func25, Try.ntmps25
      go_wp2_with fail
      with_reducible refine HL.out.mono ?_
      rintro e w1 ⟨rfl, rfl⟩
      go_wp2_with fail
      go_quiet (fail)
      go_wp2_with fail
      go_ret2
      refine ⟨?_, (by (first | assumption | (repeat (first | exact Below.refl _ _ | assumption | apply Below.drew | apply below_drewN | (refine Below.setCell ?_ (by (try simp) <;> omega) _) | (refine Below.alloc ?_ (by (try simp) <;> omega) _)))))⟩
      show Ending.returned (.tuple #[.int .u64 ((n : Int) / 2 ^ (64 - k)), .int .u64 (IntKind.u64.wrap ((n : Int) * 2 ^ k))]) = _
      have hT : n * 2 ^ k / 18446744073709551616 = n / 2 ^ (64 - k) := by
        rw [show (18446744073709551616 : Nat) = 2 ^ (64 - k) * 2 ^ k by rw [← Nat.pow_add, Nat.sub_add_cancel (by omega)]]
        exact Nat.mul_div_mul_right _ _ (Nat.two_pow_pos _)
      have hW : IntKind.u64.wrap ((n : Int) * 2 ^ k) = ((n * 2 ^ k % 18446744073709551616 : Nat) : Int) := by
        have : IntKind.u64.wrap ((n : Int) * 2 ^ k) = ((n : Int) * 2 ^ k) % 18446744073709551616 := by rfl
        rw [this, show (n : Int) * 2 ^ k = ((n * 2 ^ k : Nat) : Int) by rw [Int.natCast_mul, Int.natCast_pow]; rfl]
        obtain ⟨X, hX⟩ : ∃ X, n * 2 ^ k = X := ⟨_, rfl⟩
        rw [hX]
        omega
      rw [hT, hW, show (n : Int) / 2 ^ (64 - k) = ((n / 2 ^ (64 - k) : Nat) : Int) by rw [Int.natCast_ediv, Int.natCast_pow]; rfl]

/-- Two to the power of 1074. -/
def tho : Nat := 1074
def big : Nat := 2 ^ tho
theorem pow_two_add (n c : Nat) : 2 ^ n * 2 ^ c = 2 ^ (n + c) := (Nat.pow_add 2 n c).symm
theorem big_pow (c : Nat) : big * 2 ^ c = 2 ^ (tho + c) := pow_two_add tho c
/-- Is a part more than a share? -/
def excB (part total b : Nat) : Bool := decide (total * val b < part * big)
def one64 : Nat := 4607182418800017408
theorem lvl (b : Nat) (hb : b < 18446744073709551616) : (ltF 0 b && leF b one64) = decide (0 < b ∧ b ≤ one64) := by
  have n0 : nanB 0 = false := by decide
  have n1 : nanB one64 = false := by decide
  have k0 : key 0 = 0 := by decide
  have k1 : key one64 = 4607182418800017408 := by decide
  have o1 : one64 = 4607182418800017408 := rfl
  unfold ltF leF
  rw [n0, n1, k0, k1]
  by_cases h : b < 9223372036854775808
  · rw [key_pos h]
    by_cases hn : b ≤ 9218868437227405312
    · rw [nan_pos hn]
      show ((true && decide ((0 : Int) < (b : Int))) && (true && decide ((b : Int) ≤ 4607182418800017408))) = _
      rw [Bool.true_and, Bool.true_and]
      by_cases h1 : 0 < b
      · by_cases h2 : b ≤ one64
        · rw [decide_eq_true (show (0 : Int) < (b : Int) by omega), decide_eq_true (show (b : Int) ≤ 4607182418800017408 by omega), decide_eq_true (⟨h1, h2⟩ : 0 < b ∧ b ≤ one64)]; rfl
        · rw [decide_eq_false (show ¬ (b : Int) ≤ 4607182418800017408 by omega), Bool.and_false, decide_eq_false (fun h => h2 h.2)]
      · rw [decide_eq_false (show ¬ (0 : Int) < (b : Int) by omega), Bool.false_and, decide_eq_false (fun h => h1 h.1)]
    · have : nanB b = true := by unfold nanB infR; rw [rg_pos h, decide_eq_true (by omega)]
      rw [this]
      rw [decide_eq_false (fun h : 0 < b ∧ b ≤ one64 => by omega)]
      rfl
  · have hk : ¬ (0 < key b) := by
      have : sg b = true := by unfold sg top; exact decide_eq_true (by omega)
      unfold key
      rw [this, if_pos rfl]
      omega
    rw [decide_eq_false hk, Bool.and_false, Bool.false_and, decide_eq_false (fun h : 0 < b ∧ b ≤ one64 => by omega)]
theorem lex {hi lo up dn N T : Nat} (hN : N = hi * 18446744073709551616 + lo) (hT : T = up * 18446744073709551616 + dn) (h1 : lo < 18446744073709551616) (h2 : dn < 18446744073709551616) : (decide (hi < up) || (up == hi && decide (lo < dn))) = decide (N < T) := by
  by_cases h : hi < up
  · rw [decide_eq_true h, Bool.true_or]; exact (decide_eq_true (by omega)).symm
  · rw [decide_eq_false h, Bool.false_or]
    by_cases e : up = hi
    · subst e
      rw [beq_self_eq_true, Bool.true_and]
      by_cases h3 : lo < dn
      · rw [decide_eq_true h3]; exact (decide_eq_true (by omega)).symm
      · rw [decide_eq_false h3]; exact (decide_eq_false (by omega)).symm
    · rw [show (up == hi) = false from beq_eq_false_iff_ne.2 e, Bool.false_and]; exact (decide_eq_false (by omega)).symm
/-- The figures of a level and its power of two. -/
def lvM (b : Nat) : Nat := 4503599627370496 + nrm b % 4503599627370496
def lvS (b : Nat) : Nat := (53 - frX b).toNat
theorem lv_facts {b : Nat} (h0 : 0 < b) (h1 : b ≤ one64) : 53 - frX b = lvS b ∧ 52 ≤ lvS b ∧ lvS b ≤ 1200 ∧ lvM b < 9007199254740992 ∧ ∀ part total : Nat, excB part total b = decide (total * lvM b < part * 2 ^ lvS b) := by
  have o1 : one64 = 4607182418800017408 := rfl
  have hi : infR = 9218868437227405312 := rfl
  have hbn : bin = 4503599627370496 := rfl
  obtain ⟨n1, n2, n3⟩ := nrm_bd h0 (by omega)
  have hX : frX b = nrmX b + ((nrm b / 4503599627370496 : Nat) : Int) - 1022 := rfl
  have hE1 : 1 ≤ nrm b / 4503599627370496 := by omega
  have key : ∃ c : Nat, nrmX b = -(c : Int) ∧ val b * 2 ^ c = val (nrm b) ∧ nrm b / 4503599627370496 ≤ 1023 + c ∧ c ≤ 52 := by
    by_cases hs : b < bin
    · refine ⟨52, by unfold nrmX; rw [if_pos hs]; rfl, ?_, by have := n3 hs; omega, Nat.le_refl _⟩
      rw [nrm_val h0 hs]
      have : val b = b := by unfold val mg pl; rw [if_pos hs, Nat.div_eq_of_lt hs]; simp
      rw [this]
    · refine ⟨0, by unfold nrmX; rw [if_neg hs]; rfl, ?_, ?_, by omega⟩
      · have : nrm b = b := by unfold nrm; rw [if_neg hs]
        rw [this, Nat.pow_zero, Nat.mul_one]
      · have : nrm b = b := by unfold nrm; rw [if_neg hs]
        rw [this]
        omega
  obtain ⟨c, hc, hv, hE2, hc2⟩ := key
  obtain ⟨E, hE⟩ : ∃ E, nrm b / 4503599627370496 = E := ⟨_, rfl⟩
  rw [hE] at hX hE1 hE2
  have hval : val (nrm b) = lvM b * 2 ^ (E - 1) := by
    unfold val mg pl lvM
    rw [if_neg (by omega), hbn, hE]
  have hS : lvS b = 1075 + c - E := by unfold lvS; rw [hX, hc]; omega
  refine ⟨by unfold lvS; rw [hX, hc]; omega, by rw [hS]; omega, by rw [hS]; omega, by unfold lvM; omega, fun part total => ?_⟩
  unfold excB
  congr 1
  apply propext
  have e1 : total * val b * 2 ^ c = total * lvM b * 2 ^ (E - 1) := by rw [Nat.mul_assoc, hv, hval, Nat.mul_assoc]
  have e2 : part * big * 2 ^ c = part * 2 ^ lvS b * 2 ^ (E - 1) := by
    rw [Nat.mul_assoc, big_pow, Nat.mul_assoc, ← Nat.pow_add, hS, show 1075 + c - E + (E - 1) = tho + c by unfold tho; omega]
  rw [← Nat.mul_lt_mul_right (Nat.two_pow_pos c) (b := total * val b), e1, e2, Nat.mul_lt_mul_right (Nat.two_pow_pos (E - 1))]
end Go.Proofs.Ytpbdlmkcomnjbaa

/- What this text proves: the contracts of the reference's parts, Nan, place, Order, Bits, Of. The conditions are that bits are bits. -/
import Derived.Test.YtpbdlmkcomnjbaaLevC
import Derived.Deep.Cut
import Derived.Outline
import Derived.OwnWalk
namespace Go.Proofs.Ytpbdlmkcomnjbaa
open Go.RowKit
set_option linter.unusedVariables false
set_option linter.unusedSimpArgs false

theorem bits_2047 (x : Nat) (hx : x < 18446744073709551616) : bits .and .u64 (x : Int) 2047 = ((x % 2048 : Nat) : Int) := by
  have e : bits .and .u64 (x : Int) 2047 = IntKind.u64.wrap (((BitVec.ofInt 64 (x : Int)) &&& (BitVec.ofInt 64 2047)).toNat : Int) := by rfl
  have e2 : (BitVec.ofInt 64 2047).toNat = 2 ^ 11 - 1 := by decide
  have e3 : (BitVec.ofInt 64 (x : Int)).toNat = x := by simp; omega
  rw [e, BitVec.toNat_and, e2, e3, Nat.and_two_pow_sub_one_eq_mod]
  have : IntKind.u64.wrap ((x % 2 ^ 11 : Nat) : Int) = ((x % 2 ^ 11 : Nat) : Int) % 18446744073709551616 := by rfl
  rw [this]
  show ((x % 2048 : Nat) : Int) % 18446744073709551616 = _
  omega
def partE (b : Nat) : Nat := rg b / bin
def partM (b : Nat) : Nat := if partE b = 2047 ∨ partE b = 0 then rg b % bin else rg b % bin + bin
def partX (b : Nat) : Int := if partE b = 2047 then 2047 else if partE b = 0 then -1074 else (partE b : Int) - 1075
theorem partE_le (b : Nat) : partE b ≤ 2047 := by
  have := rg_lt b
  unfold partE bin
  unfold top at this
  omega
theorem nan_part (b : Nat) : nanB b = (decide (partE b = 2047) && decide (rg b % bin ≠ 0)) := by
  have h := rg_lt b
  unfold nanB partE infR bin
  unfold top at h
  obtain ⟨r, hr⟩ : ∃ r, rg b = r := ⟨_, rfl⟩
  rw [hr] at h ⊢
  rw [← Bool.decide_and]
  congr 1
  apply propext
  constructor
  · intro h1; exact ⟨by omega, by omega⟩
  · rintro ⟨h1, h2⟩; omega
theorem parts_any (b : Nat) (hb : b < 18446744073709551616) (w : World) : Calls Try.prog 27 #[.float .f64 b] w fun e w' => e = .returned (.tuple #[.bool (sg b), .int .u64 (partM b : Nat), .int .i64 (partX b)]) ∧ w' = w := by
  have hc := call_bits b
  have hEl := partE_le b
  have hs : ((b : Int) / 9223372036854775808 == 1) = sg b := by
    unfold sg top
    by_cases h : 9223372036854775808 ≤ b
    · rw [decide_eq_true h, beq_iff_eq]; omega
    · rw [decide_eq_false h, beq_eq_false_iff_ne]; omega
  have hE : bits .and .u64 ((b : Int) / 4503599627370496) 2047 = (partE b : Int) := by
    have h := bits_2047 (b / 4503599627370496) (by omega)
    rw [show ((b / 4503599627370496 : Nat) : Int) = (b : Int) / 4503599627370496 by omega] at h
    rw [h]
    unfold partE rg bin top
    omega
  have hm : (b : Int) % 4503599627370496 = ((rg b % bin : Nat) : Int) := by
    unfold rg bin top
    omega
  have hml : rg b % bin < 4503599627370496 := Nat.mod_lt _ (by decide)
  unfold partM partX
  obtain ⟨E, hE2⟩ : ∃ E, partE b = E := ⟨_, rfl⟩
  obtain ⟨m, hm2⟩ : ∃ m, rg b % bin = m := ⟨_, rfl⟩
  obtain ⟨s, hs2⟩ : ∃ s, sg b = s := ⟨_, rfl⟩
  rw [hE2] at hE hEl ⊢
  rw [hm2] at hm hml ⊢
  rw [hs2] at hs ⊢
  clear hE2 hm2 hs2
  by_cases h1 : E = 2047
  · subst h1
    rw [if_pos (.inl rfl), if_pos rfl]
    have hE' : bits .and .u64 ((b : Int) / 4503599627370496) 2047 = 2047 := hE
    clear hE
    go_enter Try.func27, Try.ntmps27
    go_wp2_with fail
    go_ret3
    refine ⟨?_, rfl⟩
    show Ending.returned (.tuple #[.bool s, .int .u64 ((b : Int) % 4503599627370496), .int .i64 2047]) = _
    rw [hm]
  · by_cases h0 : E = 0
    · subst h0
      rw [if_pos (.inr rfl), if_neg (by decide), if_pos rfl]
      have hE' : bits .and .u64 ((b : Int) / 4503599627370496) 2047 = 0 := hE
      clear hE
      go_enter Try.func27, Try.ntmps27
      go_wp2_with fail
      go_ret3
      refine ⟨?_, rfl⟩
      show Ending.returned (.tuple #[.bool s, .int .u64 ((b : Int) % 4503599627370496), .int .i64 (-1074)]) = _
      rw [hm]
    · rw [if_neg (by omega), if_neg h1, if_neg h0]
      have q1 : ((E : Int) == 2047) = false := by simp; omega
      have q0 : ((E : Int) == 0) = false := by simp; omega
      have q2 : (E : Int) ≤ 2047 := by omega
      have q3 : (m : Int) < 4503599627370496 := by omega
      go_enter Try.func27, Try.ntmps27
      go_wp2_with fail
      go_ret3
      refine ⟨?_, rfl⟩
      first | rfl | (push_cast; rfl)

theorem rnan_any (b : Nat) (hb : b < 18446744073709551616) (w : World) : Calls Try.prog 33 #[.float .f64 b] w fun e w' => e = .returned (.bool (nanB b)) ∧ w' = w := by
  have HP := Lib.hid (parts_any b hb)
  rw [nan_part]
  have hm : partM b = 0 → rg b % bin = 0 := by unfold partM; split <;> omega
  have hX : partX b = 2047 ↔ partE b = 2047 := by
    have := partE_le b
    unfold partX
    repeat' split
    all_goals omega
  have hM : partE b = 2047 → partM b = rg b % bin := fun h => by unfold partM; rw [if_pos (.inl h)]
  obtain ⟨M, hM2⟩ : ∃ M, partM b = M := ⟨_, rfl⟩
  obtain ⟨X, hX2⟩ : ∃ X, partX b = X := ⟨_, rfl⟩
  obtain ⟨s, hs2⟩ : ∃ s, sg b = s := ⟨_, rfl⟩
  rw [hM2, hX2, hs2] at HP
  rw [hX2] at hX
  rw [hM2] at hM
  clear hM2 hX2 hs2 hm
  by_cases h1 : X = 2047
  · subst h1
    have hE := hX.1 rfl
    have hMm := hM hE
    rw [decide_eq_true hE, Bool.true_and, ← hMm]
    have hq : (!((M : Int) == 0)) = decide (M ≠ 0) := by
      by_cases h : M = 0
      · subst h; rfl
      · rw [decide_eq_true h]; simp; omega
    rw [← hq]
    clear hX hM hE hMm hq
    go_enter Try.func33, Try.ntmps33
    go_wp2_with fail
    with_reducible refine (HP.out _).mono ?_
    rintro e w1 ⟨rfl, rfl⟩
    go_wp2_with fail
    go_ret
    exact ⟨rfl, rfl⟩
  · rw [decide_eq_false (fun h => h1 (hX.2 h)), Bool.false_and]
    have q1 : (X == 2047) = false := by simpa using h1
    clear hX hM h1
    go_enter Try.func33, Try.ntmps33
    go_wp2_with fail
    with_reducible refine (HP.out _).mono ?_
    rintro e w1 ⟨rfl, rfl⟩
    go_wp2_with fail
    go_ret
    exact ⟨rfl, rfl⟩

theorem place_any (b : Nat) (hb : b < 18446744073709551616) (w : World) : Calls Try.prog 34 #[.float .f64 b] w fun e w' => e = .returned (.int .i64 (place b)) ∧ w' = w := by
  have HN := Lib.hid (rnan_any b hb)
  have hc := call_bits b
  have hrl := rg_lt b
  unfold top at hrl
  have hs : ((b : Int) / 9223372036854775808 == 1) = sg b := by
    unfold sg top
    by_cases h : 9223372036854775808 ≤ b
    · rw [decide_eq_true h, beq_iff_eq]; omega
    · rw [decide_eq_false h, beq_eq_false_iff_ne]; omega
  have hm : (b : Int) % 9223372036854775808 = ((rg b : Nat) : Int) := by unfold rg top; omega
  have hp : sg b = false → rg b = b := fun h => by
    unfold sg top at h
    rw [decide_eq_false_iff_not] at h
    unfold rg top
    omega
  cases nb : nanB b with
  | true =>
    rw [nb] at HN
    rw [place_nan nb]
    clear nb hp
    go_enter Try.func34, Try.ntmps34
    go_wp2_with fail
    with_reducible refine (HN.out _).mono ?_
    rintro e w1 ⟨rfl, rfl⟩
    go_wp2_with fail
    go_ret
    exact ⟨rfl, rfl⟩
  | false =>
    rw [nb] at HN
    rw [(place_nn nb).2]
    have hle := nn_le nb
    unfold infR at hle
    clear nb
    cases sb : sg b with
    | true =>
      rw [sb] at hs
      simp only [if_true]
      obtain ⟨r, hr⟩ : ∃ r, rg b = r := ⟨_, rfl⟩
      rw [hr] at hm hrl hle ⊢
      have hri : (r : Int) ≤ 9218868437227405312 := by omega
      clear sb hp hr
      go_enter Try.func34, Try.ntmps34
      go_wp2_with fail
      with_reducible refine (HN.out _).mono ?_
      rintro e w1 ⟨rfl, rfl⟩
      go_wp2_with fail
      go_ret
      exact ⟨rfl, rfl⟩
    | false =>
      rw [sb] at hs
      have e := hp sb
      simp only [Bool.false_eq_true, if_false]
      rw [e] at hrl hle ⊢
      have hri : (b : Int) ≤ 9218868437227405312 := by omega
      clear sb hp e hm
      go_enter Try.func34, Try.ntmps34
      go_wp2_with fail
      with_reducible refine (HN.out _).mono ?_
      rintro e w1 ⟨rfl, rfl⟩
      go_wp2_with fail
      go_ret
      exact ⟨rfl, rfl⟩
end Go.Proofs.Ytpbdlmkcomnjbaa

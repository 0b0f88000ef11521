/- What this text proves: the contract of the reference's Key. The condition is that the number fits. -/
import Derived.Test.YtcnmoallgfdomaaDoorPowLaw
namespace Go.Proofs.YtcnmoallgfdomaaDoor
open Go.RowKit
set_option linter.unusedVariables false
set_option linter.unusedSimpArgs false

set_option maxHeartbeats 1000000 in
theorem rright_any (s : Nat) (w : World) (hs : s < 18446744073709551616) :
    Calls Tryd.prog 32 #[.int .u64 s] w fun e w' => e = .returned (.bool (decide (1 ≤ s ∧ s < QQ))) ∧ w = w' := by
  obtain ⟨b, hb⟩ : ∃ b, decide (1 ≤ s ∧ s < QQ) = b := ⟨_, rfl⟩
  rw [hb]
  have HB := Lib.hid hb
  clear hb
  unfold QQ at HB
  rcases Nat.eq_zero_or_pos s with h0 | h0
  · subst h0
    have t1 : b = false := by have := HB.out; simp at this; exact this
    subst t1
    go_enter Tryd.func32, Tryd.ntmps32
    go_wp2_with fail
    go_ret
    exact ⟨rfl, rfl⟩
  · rcases Nat.lt_or_ge s 2305843009213693950 with h1 | h1
    · have t0 : b = true := by have := HB.out; simp at this; rw [← this]; simp; omega
      have t1 : decide ((1 : Int) ≤ (s : Int)) = true := by simp; omega
      have t2 : decide ((s : Int) ≤ 2305843009213693949) = true := by simp; omega
      subst t0
      go_enter Tryd.func32, Tryd.ntmps32
      go_wp2_with fail
      go_ret
      exact ⟨rfl, rfl⟩
    · have t0 : b = false := by have := HB.out; simp at this; rw [← this]; simp; omega
      have t1 : decide ((1 : Int) ≤ (s : Int)) = true := by simp; omega
      have t2 : decide ((s : Int) ≤ 2305843009213693949) = false := by simp; omega
      subst t0
      go_enter Tryd.func32, Tryd.ntmps32
      go_wp2_with fail
      go_ret
      exact ⟨rfl, rfl⟩

set_option maxHeartbeats 1000000 in
theorem rkey_any (s : Nat) (w : World) (hs : s < 18446744073709551616) :
    Calls Tryd.prog 23 #[.int .u64 s] w fun e w' => e = .returned (.tuple #[.int .u64 (keyOf s : Int), .int .i64 (keyErr s)]) ∧ w = w' := by
  have HR := Lib.hid (rright_any s w hs)
  by_cases h : 1 ≤ s ∧ s < QQ
  · obtain ⟨k1, k2⟩ := key_yes h
    rw [k1, k2]
    rw [decide_eq_true h] at HR
    have HC := Lib.hid (rpower_at 37 s 37 s rfl rfl w (by decide) hs)
    obtain ⟨R, hR⟩ : ∃ R, 37 ^ s % PP = R := ⟨_, rfl⟩
    rw [hR] at HC ⊢
    clear h k1 k2 hR
    go_enter Tryd.func23, Tryd.ntmps23
    go_wp2_with fail
    with_reducible refine HR.out.mono ?_
    rintro e w' ⟨rfl, rfl⟩
    go_wp2_with fail
    with_reducible refine HC.out.mono ?_
    rintro e w' ⟨rfl, rfl⟩
    go_wp2_with fail
    go_ret2
    exact ⟨rfl, rfl⟩
  · obtain ⟨k1, k2⟩ := key_no h
    rw [k1, k2]
    rw [decide_eq_false h] at HR
    clear h k1 k2
    go_enter Tryd.func23, Tryd.ntmps23
    go_wp2_with fail
    with_reducible refine HR.out.mono ?_
    rintro e w' ⟨rfl, rfl⟩
    go_wp2_with fail
    go_ret2
    exact ⟨rfl, rfl⟩
end Go.Proofs.YtcnmoallgfdomaaDoor

/- What this text proves: the contracts of both Keys and of the law's live question. The conditions are that the numbers fit. -/
import Derived.Test.YtcnmoallgfdomaaDoorPowRef
namespace Go.Proofs.YtcnmoallgfdomaaDoor
open Go.RowKit
set_option linter.unusedVariables false
set_option linter.unusedSimpArgs false

/-- A key, or the error. -/
def keyOf (s : Nat) : Nat := if 1 ≤ s ∧ s < QQ then 37 ^ s % PP else 0
def keyErr (s : Nat) : Int := if 1 ≤ s ∧ s < QQ then 0 else 41
theorem key_yes {s : Nat} (h : 1 ≤ s ∧ s < QQ) : keyOf s = 37 ^ s % PP ∧ keyErr s = 0 := ⟨if_pos h, if_pos h⟩
theorem key_no {s : Nat} (h : ¬ (1 ≤ s ∧ s < QQ)) : keyOf s = 0 ∧ keyErr s = 41 := ⟨if_neg h, if_neg h⟩

theorem power_at (bi ei : Int) (b e : Nat) (h1 : bi = b) (h2 : ei = e) (w : World) (hb : b < 18446744073709551616) (he : e < 18446744073709551616) :
    Calls Tryd.prog 13 #[.int .u64 bi, .int .u64 ei] w fun en w' => en = .returned (.int .u64 ((b ^ e % PP : Nat) : Int)) ∧ Below w.heap.size w w' := by
  subst h1 h2
  exact power_any b e w hb he
theorem rpower_at (bi ei : Int) (b e : Nat) (h1 : bi = b) (h2 : ei = e) (w : World) (hb : b < 18446744073709551616) (he : e < 18446744073709551616) :
    Calls Tryd.prog 18 #[.int .u64 bi, .int .u64 ei] w fun en w' => en = .returned (.int .u64 ((b ^ e % PP : Nat) : Int)) ∧ w = w' := by
  subst h1 h2
  exact rpower_any b e w hb he

set_option maxHeartbeats 1000000 in
theorem key_any (s : Nat) (w : World) (hs : s < 18446744073709551616) :
    Calls Tryd.prog 12 #[.int .u64 s] w fun e w' => e = .returned (.tuple #[.int .u64 (keyOf s : Int), .int .i64 (keyErr s)]) ∧ Below w.heap.size w w' := by
  by_cases h : 1 ≤ s ∧ s < QQ
  · obtain ⟨k1, k2⟩ := key_yes h
    rw [k1, k2]
    have HC := Lib.hid (power_at 37 s 37 s rfl rfl w (by decide) hs)
    have t1 : ((s : Int) == 0) = false := by simp; omega
    have t2 : decide ((2305843009213693950 : Int) ≤ (s : Int)) = false := by have := h.2; unfold QQ at this; simp; omega
    obtain ⟨R, hR⟩ : ∃ R, 37 ^ s % PP = R := ⟨_, rfl⟩
    rw [hR] at HC ⊢
    clear h k1 k2 hR
    go_enter Tryd.func12, Tryd.ntmps12
    go_wp2_with fail
    with_reducible refine HC.out.mono ?_
    rintro e w' ⟨rfl, b⟩
    go_wp2_with fail
    go_ret2
    exact ⟨rfl, b⟩
  · obtain ⟨k1, k2⟩ := key_no h
    rw [k1, k2]
    rcases Nat.eq_zero_or_pos s with h0 | h0
    · subst h0
      clear h k1 k2
      go_enter Tryd.func12, Tryd.ntmps12
      go_wp2_with fail
      go_ret2
      exact ⟨rfl, Below.refl _ _⟩
    · have t1 : ((s : Int) == 0) = false := by simp; omega
      have t2 : decide ((2305843009213693950 : Int) ≤ (s : Int)) = true := by unfold QQ at h; simp; omega
      clear h k1 k2
      go_enter Tryd.func12, Tryd.ntmps12
      go_wp2_with fail
      go_ret2
      exact ⟨rfl, Below.refl _ _⟩

theorem key_at (si : Int) (s : Nat) (h : si = s) (w : World) (hs : s < 18446744073709551616) :
    Calls Tryd.prog 12 #[.int .u64 si] w fun e w' => e = .returned (.tuple #[.int .u64 (keyOf s : Int), .int .i64 (keyErr s)]) ∧ Below w.heap.size w w' := by
  subst h
  exact key_any s w hs

set_option maxHeartbeats 1000000 in
theorem alive_any (w : World) : Calls Tryd.prog 7 #[] w fun e w' => e = .returned (.bool true) ∧ Below w.heap.size w w' := by
  have HK := Lib.hid (key_at 1 1 rfl w (by decide))
  have e1 : keyOf 1 = 37 := by decide
  have e2 : keyErr 1 = 0 := by decide
  rw [e1, e2] at HK
  have HP := Lib.hid (fun W => power_at 2 61 2 61 rfl rfl W (by decide) (by decide))
  have e3 : 2 ^ 61 % PP = 1 := by decide
  rw [e3] at HP
  go_enter Tryd.func7, Tryd.ntmps7
  go_wp2_with fail
  with_reducible refine HK.out.mono ?_
  rintro e w1 ⟨rfl, b1⟩
  go_wp2_with fail
  with_reducible refine (HP.out w1).mono ?_
  rintro e w2 ⟨rfl, b2⟩
  go_wp2_with fail
  go_ret
  exact ⟨rfl, step_b b1 b2⟩
end Go.Proofs.YtcnmoallgfdomaaDoor

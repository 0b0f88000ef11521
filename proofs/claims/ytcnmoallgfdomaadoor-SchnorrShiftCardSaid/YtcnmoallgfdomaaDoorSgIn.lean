/- What this text proves: the contract of Verify's closure: whether a number is in the range. The condition is that the number fits. -/
import Derived.Test.YtcnmoallgfdomaaDoorPowKeyRef
namespace Go.Proofs.YtcnmoallgfdomaaDoor
open Go.RowKit
set_option linter.unusedVariables false
set_option linter.unusedSimpArgs false

def inR (n : Nat) : Bool := decide (1 ≤ n ∧ n < PP)
set_option maxHeartbeats 1000000 in
theorem in_any (n : Nat) (w : World) (hn : n < 18446744073709551616) :
    Calls Tryd.prog 14 #[.int .u64 n] w fun e w' => e = .returned (.bool (inR n)) ∧ w' = w := by
  obtain ⟨b, hb⟩ : ∃ b, inR n = b := ⟨_, rfl⟩
  rw [hb]
  have HB := Lib.hid hb
  clear hb
  unfold inR PP at HB
  rcases Nat.eq_zero_or_pos n with h0 | h0
  · subst h0
    have t1 : b = false := by have := HB.out; simp at this; exact this
    subst t1
    go_enter Tryd.func14, Tryd.ntmps14
    go_wp2_with fail
    go_ret
    exact ⟨rfl, rfl⟩
  · rcases Nat.lt_or_ge n 2305843009213693951 with h1 | h1
    · have t0 : b = true := by have := HB.out; simp at this; rw [← this]; simp; omega
      have t1 : decide ((1 : Int) ≤ (n : Int)) = true := by simp; omega
      have t2 : binOp .lss 22 (.int .u64 (n : Int)) (.int .u64 2305843009213693951) = pure (.bool true) := by
        rw [binOp_lss, decide_eq_true (by omega)]
      subst t0
      clear h1
      go_enter Tryd.func14, Tryd.ntmps14
      go_wp2_with fail
      go_ret
      exact ⟨rfl, rfl⟩
    · have t0 : b = false := by have := HB.out; simp at this; rw [← this]; simp; omega
      have t1 : decide ((1 : Int) ≤ (n : Int)) = true := by simp; omega
      have t2 : binOp .lss 22 (.int .u64 (n : Int)) (.int .u64 2305843009213693951) = pure (.bool false) := by
        rw [binOp_lss, decide_eq_false (by omega)]
      subst t0
      clear h1
      go_enter Tryd.func14, Tryd.ntmps14
      go_wp2_with fail
      go_ret
      exact ⟨rfl, rfl⟩
end Go.Proofs.YtcnmoallgfdomaaDoor

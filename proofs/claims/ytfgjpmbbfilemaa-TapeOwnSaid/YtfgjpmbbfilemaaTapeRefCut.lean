/- What this text proves: the contracts of the reference tape's New, Cut and of its Append when full. The conditions are how the values lie in memory. -/
import Derived.Test.YtfgjpmbbfilemaaTapeRefDo
import Derived.Test.YtfgjpmbbfilemaaTapeAlive
namespace Go.Proofs.Ytfgjpmbbfilemaa
open Go.RowKit
set_option linter.unusedVariables false
set_option linter.unusedSimpArgs false

/-- A new tape of the reference. -/
def RNew (w : World) (c : List UInt8 × Nat) (e : Ending) (w' : World) : Prop :=
  ∃ p lv, e = .returned (.pointer (some ⟨p, 0, none⟩)) ∧ RefAt w' p lv [c] ∧ Kept w.heap.size p lv ∧ p < w'.heap.size ∧ Below w.heap.size w w'

theorem rnew_of {w w1 w2 w3 : World} {v : Value} {c : List UInt8 × Nat} (hok : okStep c) (hb : Below w.heap.size w w1) (hv : Rd 5 w1 v (bts c.1))
    (h2 : w2 = w1.alloc (.cells #[v, .int .i64 (c.2 : Int)] 55)) (h3 : w3 = w2.alloc (.cells #[.slice (some ⟨w1.heap.size, 0, none⟩) 1 1] 58)) :
    RNew w c (.returned (.pointer (some ⟨w1.heap.size + 1, 0, none⟩))) w3 := by
  have hsz := hb.size
  have hs2 : w2.heap.size = w1.heap.size + 1 := by rw [h2]; simp
  have hB2 : Below w1.heap.size w1 w2 := by rw [h2]; exact (by (first | assumption | (repeat (first | exact Below.refl _ _ | assumption | apply Below.drew | apply below_drewN | (refine Below.setCell ?_ (by (try simp) <;> omega) _) | (refine Below.alloc ?_ (by (try simp) <;> omega) _)))))
  have hB3 : Below w2.heap.size w2 w3 := by rw [h3]; exact (by (first | assumption | (repeat (first | exact Below.refl _ _ | assumption | apply Below.drew | apply below_drewN | (refine Below.setCell ?_ (by (try simp) <;> omega) _) | (refine Below.alloc ?_ (by (try simp) <;> omega) _)))))
  have hq : Bk w3 w1.heap.size 55 #[v, .int .i64 (c.2 : Int)] := by
    have := Bk.new w1 55 #[v, .int .i64 (c.2 : Int)]
    rw [← h2] at this
    exact this.below hB3 (by omega)
  have hp : Bk w3 (w1.heap.size + 1) 58 #[.slice (some ⟨w1.heap.size, 0, none⟩) 1 1] := by
    have := Bk.new w2 58 #[.slice (some ⟨w1.heap.size, 0, none⟩) 1 1]
    rwa [← h3, hs2] at this
  have hB13 : Below w1.heap.size w1 w3 := step_b hB2 hB3
  have hv3 := hv.below hB13 (Nat.le_refl _)
  refine ⟨_, _, rfl, ⟨hp, ⟨[v, .int .i64 (c.2 : Int)], ⟨rfl, .inr ⟨w1.heap.size, 1, _, rfl, Nat.zero_le _, hq, Nat.le_refl _, by simp [maxLen], rfl, rfl⟩⟩, rfl, fun i s hs => ?_⟩, fun s hs => ?_⟩, ⟨by omega, fun k hk => ?_⟩, hp.lt, hb.trans (hB13.mono hsz)⟩
  · match i with
    | 0 =>
      simp at hs
      subst hs
      exact ⟨v, rfl, rfl, hv3⟩
    | j + 1 => simp at hs
  · simp at hs
    subst hs
    exact hok
  · simp only [Value.ownBlock, Option.some.injEq] at hk
    omega

theorem rnew_any (w : World) : Calls Try.prog 13 #[] w (RNew w ([], 0)) := by
  have HE := Lib.hid (rnew_of (w := w) (w1 := w) (v := .slice none 0 0) (c := ([], 0)) ⟨by simp, by simp⟩ (Below.refl _ _) (Rd.nil _ _) rfl rfl)
  go_enter Try.func13, Try.ntmps13
  go_wp2
  go_ret
  exact HE.out

set_option maxHeartbeats 1000000 in
theorem rappend_full (m : Nat) (lv : Value) (l : List (List UInt8 × Nat)) (s : List UInt8 × Nat) (k M : Nat) (A' : Option Addr) (c' : Nat) (w : World) (h : RefAt w m lv l) (hk : l.length = k + 1) (hk2 : k ≤ 1000000) (hs : l[k]? = some s) (hm : 1048576 < s.1.length + M) (hM : M ≤ maxLen) :
    Calls Try.prog 28 #[.pointer (some ⟨m, 0, none⟩), .slice A' M c'] w fun e w' => e = .returned (.int .i64 101) ∧ Below w.heap.size w w' := by
  have HL := Lib.hid (rlast_any m lv l s k w h hk hk2 hs)
  have hok := (h.ok s (List.mem_of_getElem? hs)).1
  unfold maxLen at hM
  have e1 : IntKind.i64.wrap ((1048576 : Int) - s.1.length) = (1048576 : Int) - s.1.length := IntWalk.i64_in _ (by omega)
  have e2 : decide ((1048576 : Int) - s.1.length < M) = true := by simp; omega
  clear h hk hs
  go_enter Try.func28, Try.ntmps28
  go_wp2_with fail
  with_reducible refine HL.out.mono ?_
  rintro e w1 ⟨A, c, rfl, hr, hb⟩
  clear hr
  have hb0 := hb.size
  go_wp2_with fail
  go_ret
  exact ⟨rfl, (by (first | assumption | (repeat (first | exact Below.refl _ _ | assumption | apply Below.drew | apply below_drewN | (refine Below.setCell ?_ (by (try simp) <;> omega) _) | (refine Below.alloc ?_ (by (try simp) <;> omega) _)))))⟩
end Go.Proofs.Ytfgjpmbbfilemaa

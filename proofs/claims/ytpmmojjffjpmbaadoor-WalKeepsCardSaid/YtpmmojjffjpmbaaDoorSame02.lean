/- What this text proves: the contract of the reference's Same: whether two slices of bytes are one. The conditions are how the slices lie in memory. -/
import Derived.Test.YtpmmojjffjpmbaaDoorConv
namespace Go.Proofs.YtpmmojjffjpmbaaDoor
open Go.RowKit
set_option linter.unusedVariables false
set_option linter.unusedSimpArgs false

set_option maxHeartbeats 1000000 in
theorem same02_any (A A' : Option Addr) (xs ys : List UInt8) (c c' : Nat) (w : World) (hA : Sl w w.heap.size 1 A xs.length (bts xs)) (hA' : Sl w w.heap.size 1 A' ys.length (bts ys)) :
    Calls Tryd.prog 12 #[.slice A xs.length c, .slice A' ys.length c'] w fun e w' => e = .returned (.bool (decide (xs = ys))) ∧ Below w.heap.size w w' := by
  have h1 := run_conv (P := Tryd.prog) (dst := 9) Tryd.underlying22 Tryd.underlying5 Tryd.underlying9 c hA
  have h2 := run_conv (P := Tryd.prog) (dst := 9) Tryd.underlying22 Tryd.underlying5 Tryd.underlying9 c' hA'
  have HE := Lib.hid (strOf_eq xs ys)
  obtain ⟨X, hX⟩ : ∃ X, strOf xs = X := ⟨_, rfl⟩
  obtain ⟨Y, hY⟩ : ∃ Y, strOf ys = Y := ⟨_, rfl⟩
  rw [hX, hY] at HE
  rw [hX] at h1
  rw [hY] at h2
  clear hA hA' hX hY
  go_enter Tryd.func12, Tryd.ntmps12
  go_wp2
  go_ret
  refine ⟨ret_bool ?_, (by (first | assumption | (repeat (first | exact Below.refl _ _ | assumption | apply Below.drew | apply below_drewN | (refine Below.setCell ?_ (by (try simp) <;> omega) _) | (refine Below.alloc ?_ (by (try simp) <;> omega) _)))))⟩
  exact HE.out
end Go.Proofs.YtpmmojjffjpmbaaDoor

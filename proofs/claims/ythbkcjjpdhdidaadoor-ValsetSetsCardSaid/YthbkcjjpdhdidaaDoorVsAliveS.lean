/- What this text proves: the live question of layer 7 is answered with true. No condition. -/
import Derived.Test.YthbkcjjpdhdidaaDoorVals
import Derived.Test.YthbkcjjpdhdidaaDoorPower
namespace Go.Proofs.YthbkcjjpdhdidaaDoor
open Go.RowKit
set_option linter.unusedVariables false
set_option linter.unusedSimpArgs false

theorem alive_total : totalV [(1, 2), (3, 5)] = (7, 0) := by decide +kernel
theorem alive_right : rightV [] = false := by decide +kernel
theorem alive_sl (w : World) : Sl (w.alloc (.cells #[.int .u64 1, .int .i64 2, .int .u64 3, .int .i64 5] 36)) (w.alloc (.cells #[.int .u64 1, .int .i64 2, .int .u64 3, .int .i64 5] 36)).heap.size 2 (some ⟨w.heap.size, 0, none⟩) 2 (vCells [(1, 2), (3, 5)]) :=
  ⟨rfl, fun _ => ⟨_, 0, rfl, by simp, fun j u hu => by
    rw [(Bk.new w _ _).cell]
    simpa [vCells] using hu⟩⟩

set_option maxHeartbeats 1000000 in
theorem alive_any (w : World) : Calls Tryd.prog 4 #[] w fun e w' => e = .returned (.bool true) ∧ Below w.heap.size w w' := by
  have hb0 : Below w.heap.size w (w.alloc (.cells #[.int .u64 1, .int .i64 2, .int .u64 3, .int .i64 5] 36)) := (by (first | assumption | (repeat (first | exact Below.refl _ _ | assumption | apply Below.drew | apply below_drewN | (refine Below.setCell ?_ (by (try simp) <;> omega) _) | (refine Below.alloc ?_ (by (try simp) <;> omega) _)))))
  have HC := Lib.hid (total_any _ [(1, 2), (3, 5)] 2 _ (by simp [maxLen]) (alive_sl w))
  rw [alive_total] at HC
  have HR := Lib.hid (fun W => right_any none [] 0 W (by simp [maxLen]) (Sl.nil _ _ _ _))
  rw [alive_right] at HR
  go_enter Tryd.func4, Tryd.ntmps4
  go_wp2_with fail
  refine HC.out.mono ?_
  rintro e w1 ⟨rfl, hb1⟩
  have L1 : Hid (Below w.heap.size w w1) := Lib.hid (hb0.trans (hb1.mono (by simp)))
  clear hb0 hb1
  go_wp2_with fail
  refine (HR.out w1).mono ?_
  rintro e w2 ⟨rfl, hb2⟩
  have L2 : Hid (Below w.heap.size w w2) := Lib.hid (L1.out.trans (hb2.mono L1.out.size))
  clear hb2
  go_wp2_with fail
  go_ret
  exact ⟨rfl, L2.out⟩
end Go.Proofs.YthbkcjjpdhdidaaDoor

/- What this text proves: the live question of layer 8 is answered with true; and what turns.Turn computes. No condition. -/
import Derived.Test.YtfnhlallfgfkkaaOrder
namespace Go.Proofs.Ytfnhlallfgfkkaa
open Go.RowKit
set_option linter.unusedVariables false
set_option linter.unusedSimpArgs false

theorem alive_order : orderV [(1, 2), (3, 1)] 3 = ([1, 3, 1], 0) := by decide +kernel
theorem alive_sl (w : World) : Sl (w.alloc (.cells #[.int .u64 1, .int .i64 2, .int .u64 3, .int .i64 1] 32)) (w.alloc (.cells #[.int .u64 1, .int .i64 2, .int .u64 3, .int .i64 1] 32)).heap.size 2 (some ⟨w.heap.size, 0, none⟩) 2 (vCells [(1, 2), (3, 1)]) :=
  ⟨rfl, fun _ => ⟨_, 0, rfl, by simp, fun j u hu => by
    rw [(Bk.new w _ _).cell]
    simpa [vCells] using hu⟩⟩

set_option maxHeartbeats 1000000 in
theorem alive_any (w : World) : Calls Try.prog 9 #[] w fun e w' => e = .returned (.bool true) ∧ Below w.heap.size w w' := by
  have hb0 : Below w.heap.size w (w.alloc (.cells #[.int .u64 1, .int .i64 2, .int .u64 3, .int .i64 1] 32)) := (by (first | assumption | (repeat (first | exact Below.refl _ _ | assumption | apply Below.drew | apply below_drewN | (refine Below.setCell ?_ (by (try simp) <;> omega) _) | (refine Below.alloc ?_ (by (try simp) <;> omega) _)))))
  have HC := Lib.hid (order_any _ [(1, 2), (3, 1)] 2 3 _ (by simp [maxLen]) (alive_sl w))
  rw [alive_order] at HC
  go_enter Try.func9, Try.ntmps9
  go_wp2_with (go_at_call 10; refine HC.out.mono ?_; rintro e w1 ⟨v, rfl, hrow, hb1⟩; obtain ⟨g, cap, rfl⟩ := ownsRow_succ hrow; have hcell := hrow.cells (g := g) rfl; have c0 : w1.cell? ⟨g, 0, none⟩ = some (.int .u64 1) := hcell 0 _ rfl; have c1 : w1.cell? ⟨g, 1, none⟩ = some (.int .u64 3) := hcell 1 _ rfl; have c2 : w1.cell? ⟨g, 2, none⟩ = some (.int .u64 1) := hcell 2 _ rfl; clear hcell)
  go_ret
  exact ⟨rfl, hb0.trans (hb1.mono (by simp))⟩

/-- The turn of a height and a round. -/
def turnV (h r : Int) : Int := if h < 1 ∨ 1099511627776 < h ∨ r < 0 ∨ 1048576 < r then 0 else (h + r) % 4096
set_option maxHeartbeats 1000000 in
theorem turn_any (h r : Int) (w : World) : Calls Try.prog 12 #[.int .i64 h, .int .i64 r] w fun e w' => e = .returned (.int .i64 (turnV h r)) ∧ w = w' := by
  by_cases h1 : h < 1
  · go_enter Try.func12, Try.ntmps12
    go_wp2
    go_ret
    exact ⟨ret_int (by rw [turnV, if_pos (by omega)]), rfl⟩
  · by_cases h2 : 1099511627776 < h
    · go_enter Try.func12, Try.ntmps12
      go_wp2
      go_ret
      exact ⟨ret_int (by rw [turnV, if_pos (by omega)]), rfl⟩
    · by_cases h3 : r < 0
      · go_enter Try.func12, Try.ntmps12
        go_wp2
        go_ret
        exact ⟨ret_int (by rw [turnV, if_pos (by omega)]), rfl⟩
      · by_cases h4 : 1048576 < r
        · go_enter Try.func12, Try.ntmps12
          go_wp2
          go_ret
          exact ⟨ret_int (by rw [turnV, if_pos (by omega)]), rfl⟩
        · go_enter Try.func12, Try.ntmps12
          go_wp2
          go_ret
          exact ⟨ret_int (by rw [turnV, if_neg (by omega)]), rfl⟩
end Go.Proofs.Ytfnhlallfgfkkaa

/- What this text proves: the contracts of the reference's root, order and right. The conditions are the arguments' bounds. -/
import Derived.Test.YtdeikpifflkabaaDoorBlakeDg
namespace Go.Proofs.YtdeikpifflkabaaDoor
open Go.RowKit
set_option linter.unusedVariables false
set_option linter.unusedSimpArgs false

set_option maxHeartbeats 1000000 in
theorem rroot_any (i : Nat) (hi : i < 8) (w : World) : Calls Tryd.prog 49 #[.int .i64 i] w fun e w' => e = .returned (.int .u32 (rootsL.getD i 0)) ∧ Below w.heap.size w w' := by
  have hi' : (i : Int) < 8 := by omega
  have hc : ∀ j, (w.alloc (.cells (u32s rootsL).toArray 81)).cell? ⟨w.heap.size, j, none⟩ = (u32s rootsL)[j]? := fun j => by
    rw [cell_of_row _ _ j (u32s rootsL).toArray 81 (0, 0) (heap_alloc_new w _), List.getElem?_toArray]
  have hci := (hc i).trans (u32s_get rfl hi)
  have hlay : (u32s rootsL).toArray = #[.int .u32 1779033703, .int .u32 3144134277, .int .u32 1013904242, .int .u32 2773480762, .int .u32 1359893119, .int .u32 2600822924, .int .u32 528734635, .int .u32 1541459225] := rfl
  rw [hlay] at hci
  obtain ⟨v, hv⟩ : ∃ v, rootsL.getD i 0 = v := ⟨_, rfl⟩
  rw [hv] at hci ⊢
  clear hc hv hlay
  go_enter Tryd.func49, Tryd.ntmps49
  go_wp2_with fail
  go_ret
  exact ⟨rfl, (by (first | assumption | (repeat (first | exact Below.refl _ _ | assumption | apply Below.drew | apply below_drewN | (refine Below.setCell ?_ (by (try simp) <;> omega) _) | (refine Below.alloc ?_ (by (try simp) <;> omega) _)))))⟩

theorem run_assign_to {P : Program} {w : World} {o : Oper} {a : Act} (x : Operand) (h : o.op = .assign x) {S : Value} (hs : a.eval x = S) : (execOp a.eval o).run P w = .ok (.value S) w := by
  rw [BigFrame.run_assign x h w, hs]
set_option maxRecDepth 100000 in
set_option maxHeartbeats 1000000 in
theorem rorder_any (r i k : Nat) (hr : r < 10) (hi : i < 16) (hk : k = 16 * r + i) (w : World) : Calls Tryd.prog 64 #[.int .i64 r, .int .i64 i] w fun e w' => e = .returned (.int .i64 (figs.getD k 0 : Nat)) ∧ w' = w := by
  have hk160 : k < 160 := by omega
  have hv := fig_val k hk160
  have hl := fig_lt k hk160
  have HK := Lib.hid hk160
  have hm : (16 : Int) * (r : Int) + (i : Int) = (k : Int) := by omega
  have hw1 : IntKind.i64.wrap (16 * (r : Int)) = 16 * (r : Int) := IntWalk.i64_in _ (by omega)
  have hw2 : IntKind.i64.wrap (16 * (r : Int) + (i : Int)) = (k : Int) := by rw [hm]; exact IntWalk.i64_in _ (by omega)
  obtain ⟨f, hf⟩ : ∃ f, figs.getD k 0 = f := ⟨_, rfl⟩
  obtain ⟨c, hc⟩ : ∃ c, ordC k = c := ⟨_, rfl⟩
  have HC : Hid (∀ W, (Instr.index 9 (.string ordB) (.int .i64 k)).run Tryd.prog W = .ok (.int .u8 c) W) := Lib.hid (fun W => by rw [← hc]; exact run_order k hk160 W)
  rw [hf] at hv hl ⊢
  rw [hc] at hv
  clear hc hf hk hk160 HK
  by_cases h : f < 10
  · rw [if_pos h] at hv
    subst hv
    have e1 : decide ((97 : Int) ≤ 48 + f) = false := by simp; omega
    go_enter Tryd.func64, Tryd.ntmps64
    go_wp2_with (first | (refine wpList_val (by rfl) (run_assign_to _ (by with_reducible rfl) (S := .string ordB) (by kernel_rfl)) ?_) | (refine wpList_val (by rfl) (run_index_str 9 _ _ (by with_reducible rfl) (S := .string ordB) (by kernel_rfl) (i := .int .i64 k) (by first | rfl | (simp [hm])) (HC.out _)) ?_))
    go_ret
    exact ⟨ret_int (by omega), rfl⟩
  · rw [if_neg h] at hv
    subst hv
    have e1 : decide ((97 : Int) ≤ 87 + f) = true := by simp; omega
    go_enter Tryd.func64, Tryd.ntmps64
    go_wp2_with (first | (refine wpList_val (by rfl) (run_assign_to _ (by with_reducible rfl) (S := .string ordB) (by kernel_rfl)) ?_) | (refine wpList_val (by rfl) (run_index_str 9 _ _ (by with_reducible rfl) (S := .string ordB) (by kernel_rfl) (i := .int .i64 k) (by first | rfl | (simp [hm])) (HC.out _)) ?_))
    go_ret
    exact ⟨ret_int (by omega), rfl⟩
theorem bits_or_comm (a b : Int) : bits .or .u32 a b = bits .or .u32 b a := by
  simp only [bits]
  congr 1
  all_goals first | exact Nat.or_comm _ _ | (simp [Nat.or_comm])
set_option maxHeartbeats 400000 in
theorem rright_16 (X : Int) (h0 : 0 ≤ X) (h1 : X < 4294967296) (w : World) : Calls Tryd.prog 72 #[.int .u32 X, .int .i64 16] w fun e w' => e = .returned (.int .u32 (rotF X 16)) ∧ w' = w := by
  go_enter Tryd.func72, Tryd.ntmps72
  go_wp2
  go_ret
  refine ⟨?_, rfl⟩
  rw [rotF, bits_or_comm]
  rfl
set_option maxHeartbeats 400000 in
theorem rright_12 (X : Int) (h0 : 0 ≤ X) (h1 : X < 4294967296) (w : World) : Calls Tryd.prog 72 #[.int .u32 X, .int .i64 12] w fun e w' => e = .returned (.int .u32 (rotF X 20)) ∧ w' = w := by
  go_enter Tryd.func72, Tryd.ntmps72
  go_wp2
  go_ret
  refine ⟨?_, rfl⟩
  rw [rotF, bits_or_comm]
  rfl
set_option maxHeartbeats 400000 in
theorem rright_8 (X : Int) (h0 : 0 ≤ X) (h1 : X < 4294967296) (w : World) : Calls Tryd.prog 72 #[.int .u32 X, .int .i64 8] w fun e w' => e = .returned (.int .u32 (rotF X 24)) ∧ w' = w := by
  go_enter Tryd.func72, Tryd.ntmps72
  go_wp2
  go_ret
  refine ⟨?_, rfl⟩
  rw [rotF, bits_or_comm]
  rfl
set_option maxHeartbeats 400000 in
theorem rright_7 (X : Int) (h0 : 0 ≤ X) (h1 : X < 4294967296) (w : World) : Calls Tryd.prog 72 #[.int .u32 X, .int .i64 7] w fun e w' => e = .returned (.int .u32 (rotF X 25)) ∧ w' = w := by
  go_enter Tryd.func72, Tryd.ntmps72
  go_wp2
  go_ret
  refine ⟨?_, rfl⟩
  rw [rotF, bits_or_comm]
  rfl
end Go.Proofs.YtdeikpifflkabaaDoor

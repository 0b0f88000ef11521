/- What this text proves: the contract of slices.Clone at validators. The conditions are how the list lies in memory. -/
import Derived.Test.YtlocapkofmpebaaVsSearch
import Derived.Test.YtlocapkofmpebaaAppendSl
import Derived.Deep.AppendLies
import Derived.Laws.OwnMore
namespace Go.Proofs.Ytlocapkofmpebaa
open Go.RowKit
set_option linter.unusedVariables false
set_option linter.unusedSimpArgs false

theorem val_info : (Try.prog.info? 26).map (fun i => (i.zero, i.size, i.bytes)) = some (some (.agg #[.int .u64 0, .int .i64 0]), 2, 16) := by kernel_rfl
theorem vCells_one (l : List (Int × Int)) : ∀ u ∈ vCells l, u.oneCell' = true := by
  intro u hu
  unfold vCells at hu
  rw [List.mem_flatMap] at hu
  obtain ⟨x, _, hx⟩ := hu
  simp at hx
  rcases hx with rfl | rfl <;> rfl
/-- A row of validators of one's own. -/
abbrev VOwn (w : World) (B : Nat) (v : Value) (l : List (Int × Int)) : Prop := w.ownsRow B 26 2 v l.length (vCells l)

set_option maxRecDepth 100000 in
set_option maxHeartbeats 1000000 in
theorem clone_any (A : Option Addr) (l : List (Int × Int)) (c : Nat) (w : World) (hl : l.length ≤ 1000000) (hA : Sl w w.heap.size 2 A l.length (vCells l)) :
    Calls Try.prog 15 #[.slice A l.length c] w fun e w' => ∃ v, e = .returned v ∧ VOwn w' w.heap.size v l ∧ Below w.heap.size w w' := by
  obtain ⟨i0, hi, hz0, hz1, hz2⟩ := info_parts val_info
  have HA := Lib.hid hA
  clear hA
  cases A with
  | none =>
    have h0 : l.length = 0 := by
      rcases Nat.eq_zero_or_pos l.length with h | h
      · exact h
      · obtain ⟨b, off, e, _⟩ := HA.out.2 h; cases e
    obtain rfl : l = [] := List.eq_nil_of_length_eq_zero h0
    have E0 : ∀ W, (binOp BinOp.eql 22 (.slice none 0 c) (.slice none 0 0)).run Try.prog W = .ok (.bool true) W := fun W => by rfl
    go_enter Try.func15, Try.ntmps15
    go_wp2_with fail
    go_ret
    exact ⟨_, rfl, World.ownsRow_nil _ _ _ _, (by (first | assumption | (repeat (first | exact Below.refl _ _ | assumption | apply Below.drew | apply below_drewN | (refine Below.setCell ?_ (by (try simp) <;> omega) _) | (refine Below.alloc ?_ (by (try simp) <;> omega) _)))))⟩
  | some ad =>
    have E0 : ∀ W, (binOp BinOp.eql 22 (.slice (some ad) l.length c) (.slice none 0 0)).run Try.prog W = .ok (.bool false) W := fun W => by rfl
    have O9 := Lib.hid (World.ownsRow_made (base := w.heap.size) (e := 26) (size := 2) w #[] 0 (Nat.le_refl _) (by unfold maxLen; omega) (by simp))
    have L9 : Hid (Below w.heap.size w (w.alloc (.cells #[] 26))) := Lib.hid (by (first | assumption | (repeat (first | exact Below.refl _ _ | assumption | apply Below.drew | apply below_drewN | (refine Below.setCell ?_ (by (try simp) <;> omega) _) | (refine Below.alloc ?_ (by (try simp) <;> omega) _)))))
    go_enter Try.func15, Try.ntmps15
    go_wp2_with (refine wpList_append_sl (w.alloc (.cells #[] 26)) (by rfl) _ _ 22 (by rfl) w.heap.size 26 i0 _ 2 16 Try.underlying22 hi hz0 hz1 hz2 rfl (by omega) (.slice (some ⟨w.heap.size, 0, none⟩) 0 0) 0 [] (by rfl) O9.out (some ad) l.length c (vCells l) (by rfl) ((HA.out.below L9.out).more L9.out.size) (vCells_one l) (by unfold maxLen; omega) (by omega) (by simp) ?_; intro v10 w10 ho_ hg_ hv_; have O10 := Lib.hid ho_; have L10 : Hid (Below w.heap.size w w10) := Lib.hid (L9.out.grown hg_ (by simp) (fun k hk => (own_cells O9.out hk).1)); clear ho_ hg_ hv_)
    have ho := O10.out
    rw [Nat.zero_add, List.nil_append] at ho
    go_ret
    exact ⟨_, rfl, ho, L10.out⟩
end Go.Proofs.Ytlocapkofmpebaa

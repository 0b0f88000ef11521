/- What this text proves: the contracts of layer 12's reference: empty, one, New, and what the law says with them. The conditions are that hashes have 32 bytes. -/
import Derived.Test.YtlhnhdkbfkbafaaDoorRoundAlive
import Derived.Test.YtlhnhdkbfkbafaaDoorEachTail
namespace Go.Proofs.YtlhnhdkbfkbafaaDoor
open Go.RowKit
set_option linter.unusedVariables false
set_option linter.unusedSimpArgs false

theorem hi_rstate : (Tryd.prog.info? 31).map (·.size) = some 102 := by kernel_rfl
theorem hi_rinput : (Tryd.prog.info? 36).map (·.size) = some 68 := by kernel_rfl
theorem hi_routput : (Tryd.prog.info? 53).map (·.size) = some 35 := by kernel_rfl
theorem made_noneR : Tryd.prog.built 23 [] = some (bts zeros).toArray := by kernel_rfl
def ROutAt (w : World) (N : Nat) (v : Value) : Option Out → Prop
  | none => v = .slice none 0 0
  | some o => ∃ b, v = .slice (some ⟨b, 0, none⟩) 1 1 ∧ N ≤ b ∧ Bk w b 53 o.cells.toArray
theorem ROutAt.below {w w' : World} {N : Nat} {v : Value} {oo : Option Out} (h : ROutAt w N v oo) (hb : Below w.heap.size w w') : ROutAt w' N v oo := by
  cases oo with
  | none => exact h
  | some o => obtain ⟨b, h1, h2, h3⟩ := h; exact ⟨b, h1, h2, h3.below hb h3.lt⟩
theorem ROutAt.moves {w w' : World} {N g : Nat} {v : Value} {oo : Option Out} (h : ROutAt w N v oo) (hm : Moves (fun k _ => k = g) w w') (hg : g < N) : ROutAt w' N v oo := by
  cases oo with
  | none => exact h
  | some o => obtain ⟨b, h1, h2, h3⟩ := h; exact ⟨b, h1, h2, hm.bk h3 (by omega)⟩
theorem ROutAt.less {w : World} {N N' : Nat} {v : Value} {oo : Option Out} (h : ROutAt w N v oo) (hN : N' ≤ N) : ROutAt w N' v oo := by
  cases oo with
  | none => exact h
  | some o => obtain ⟨b, h1, h2, h3⟩ := h; exact ⟨b, h1, Nat.le_trans hN h2, h3⟩
theorem rempty_any (h : List UInt8) (hl : h.length = 32) (w : World) : Calls Tryd.prog 20 #[.agg (bts h).toArray] w fun e w' => e = .returned (.bool (h == zeros)) ∧ Below w.heap.size w w' := by
  have hbt : (bts h).length = 32 := by rw [bts_len, hl]
  have hr : (w.alloc (.cells (bts h).toArray 23)).rangeAt w.heap.size 0 (bts h) := (Bk.new w 23 (bts h).toArray).seg 0 [] (bts h) [] (by simp) rfl
  have hz := zeros_len
  go_enter Tryd.func20, Tryd.ntmps20
  go_wp2_with (first
    | (refine wpList_val (by rfl) (run_load_seg 23 _ (by with_reducible rfl) w.heap.size 0 (by rfl) (bts h) hr 32 hbt _ hu_hash (by rfl) hi_hash) ?_)
    | (refine wpList_val (by rfl) (run_build_at 23 _ (by with_reducible rfl) (bts zeros) (by exact made_noneR)) ?_)
    | (refine wpList_val (by rfl) (run_bytes_eql 23 5 _ _ _ (by with_reducible rfl) 32 hu_hash Tryd.underlying5 hs_u8 hm_hash h zeros (by rfl) (by rfl) hl hz) ?_))
  go_ret
  exact ⟨rfl, (by (first | assumption | (repeat (first | exact Below.refl _ _ | assumption | apply Below.drew | apply below_drewN | (refine Below.setCell ?_ (by (try simp) <;> omega) _) | (refine Below.alloc ?_ (by (try simp) <;> omega) _)))))⟩
theorem built_rout (parts : List (Nat × Value)) : Tryd.prog.built 53 parts = Instr.fill (fun i => #[(0, 1), (1, 1), (2, 32), (34, 1)][i]?) (Out.cells ⟨0, 0, zeros, 0⟩).toArray parts := by kernel_rfl
theorem made_rout (k r v : Int) (h : List UInt8) (hl : h.length = 32) : Tryd.prog.built 53 [(0, .int .i64 k), (1, .int .i64 r), (2, .agg (bts h).toArray), (3, .int .i64 v)] = some (Out.cells ⟨k, r, h, v⟩).toArray := by
  rw [built_rout, ← built_out]
  exact made_out k r v h hl
set_option maxHeartbeats 1000000 in
theorem rone_any (k r v : Int) (h : List UInt8) (hl : h.length = 32) (w : World) :
    Calls Tryd.prog 21 #[.int .i64 k, .int .i64 r, .agg (bts h).toArray, .int .i64 v] w fun e w' => ∃ u, e = .returned u ∧ ROutAt w' w.heap.size u (some ⟨k, r, h, v⟩) ∧ Below w.heap.size w w' := by
  have hbt : (bts h).length = 32 := by rw [bts_len, hl]
  have hr : (w.alloc (.cells (bts h).toArray 23)).rangeAt w.heap.size 0 (bts h) := (Bk.new w 23 (bts h).toArray).seg 0 [] (bts h) [] (by simp) rfl
  have HB := Lib.hid (made_rout k r v h hl)
  have hol := Out.cells_len (o := ⟨k, r, h, v⟩) hl
  have HOL := Lib.hid hol
  have HBT := Lib.hid hbt
  have HR := Lib.hid hr
  clear hbt hr hol hl
  go_enter Tryd.func21, Tryd.ntmps21
  go_wp2_with (first
    | (refine wpList_val (by rfl) (run_load_seg 23 _ (by with_reducible rfl) w.heap.size 0 (by rfl) (bts h) HR.out 32 HBT.out _ hu_hash (by rfl) hi_hash) ?_)
    | (refine wpList_val (by rfl) (run_build_at 53 _ (by with_reducible rfl) (Out.cells ⟨k, r, h, v⟩) (by exact HB.out)) ?_)
    | (refine wpList_new (by rfl) (run_slice_one 32 53 _ (by with_reducible rfl) Tryd.underlying32 (Out.cells ⟨k, r, h, v⟩) (by rfl) 35 HOL.out (by omega) (by omega) (fun w => Tryd.sizeOf53 w) _ (fun w => Tryd.zeroValue53 w)) ?_))
  go_ret
  refine ⟨_, rfl, ⟨_, rfl, ?_, ?_⟩, (by (first | assumption | (repeat (first | exact Below.refl _ _ | assumption | apply Below.drew | apply below_drewN | (refine Below.setCell ?_ (by (try simp) <;> omega) _) | (refine Below.alloc ?_ (by (try simp) <;> omega) _)))))⟩
  · simp
  have := Bk.new (w.alloc (.cells (bts h).toArray 23)) 53 (Out.cells ⟨k, r, h, v⟩).toArray
  simpa using this
/-- A call that makes memory, whose result is said by what it stands for. -/
theorem does_call_ex {P : Program} {ops : Array Oper} {V : Nat → Value → World → Prop} {i : Nat} {o : Oper} {a : Act} {W : World} {f : FuncId} {args : Array Value} (hw : Region.wanted o (yielded ops a.tmps) = true) (hr : (execOp a.eval o).run P W = .ok (.enter f args) W)
    (hc : Calls P f args W fun e W' => ∃ v, e = .returned v ∧ V i v W' ∧ Below W.heap.size W W') : EachDoes P ops V i o a W :=
  ⟨hw, fun Q' => by
    unfold Oper.wp
    rw [hr, Oper.upon_enter]
    refine Calls.mono hc fun e W' he => ?_
    obtain ⟨v, rfl, hv, hb⟩ := he
    exact ⟨v, rfl, hv, hb⟩⟩
theorem zero_rstate (w : World) : (zeroValue 31).run Tryd.prog w = .ok (.agg St.zero.cells.toArray) w := by
  have h : (Tryd.prog.info? 31).map (·.zero) = some (some (.agg St.zero.cells.toArray)) := by kernel_rfl
  cases hq : Tryd.prog.info? 31 with
  | none => rw [hq] at h; cases h
  | some i =>
    rw [hq] at h
    have h2 : i.zero = some (.agg St.zero.cells.toArray) := by simpa using h
    simp [zeroValue, typeInfo, hq, h2, Sem.run_bind]
end Go.Proofs.YtlhnhdkbfkbafaaDoor

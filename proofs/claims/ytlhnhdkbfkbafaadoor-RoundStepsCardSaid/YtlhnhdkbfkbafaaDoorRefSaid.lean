/- What this text proves: the contracts of what layer 12's law RoundSteps calls beside Step: told, the reference's New, said, and how the reference's states are compared. The conditions are that hashes have 32 bytes. -/
import Derived.Test.YtlhnhdkbfkbafaaDoorRefBase
import Derived.Test.YtlhnhdkbfkbafaaDoorRoundQuiet
namespace Go.Proofs.YtlhnhdkbfkbafaaDoor
open Go.RowKit
set_option linter.unusedVariables false
set_option linter.unusedSimpArgs false

theorem built_rstate (parts : List (Nat × Value)) : Tryd.prog.built 31 parts = Instr.fill (fun i => #[(0, 1), (1, 1), (2, 32), (34, 1), (35, 32), (67, 1), (68, 32), (100, 1), (101, 1)][i]?) St.zero.cells.toArray parts := by kernel_rfl
theorem put_lr {s : St} (hs : s.good) (v : Int) : put s.cells 34 [.int .i64 v] = ({s with lr := v} : St).cells := put_one (pre := .int .i64 s.round :: .int .i64 s.step :: bts s.locked) rfl (by simp [bts_len, hs.locked])
theorem put_vr {s : St} (hs : s.good) (v : Int) : put s.cells 67 [.int .i64 v] = ({s with vr := v} : St).cells := by
  have := put_one (cs := s.cells) (pre := .int .i64 s.round :: .int .i64 s.step :: (bts s.locked ++ .int .i64 s.lr :: bts s.valid)) (post := bts s.block ++ [.int .i64 s.waits, .int .i64 s.waited]) (v := .int .i64 s.vr) (u := .int .i64 v) (off := 67) (by simp [St.cells]) (by simp [bts_len, hs.locked, hs.valid])
  rw [this]
  simp [St.cells]
theorem put_waits {s : St} (hs : s.good) (v : Int) : put s.cells 100 [.int .i64 v] = ({s with waits := v} : St).cells := by
  have := put_one (cs := s.cells) (pre := .int .i64 s.round :: .int .i64 s.step :: (bts s.locked ++ .int .i64 s.lr :: (bts s.valid ++ .int .i64 s.vr :: bts s.block))) (post := [.int .i64 s.waited]) (v := .int .i64 s.waits) (u := .int .i64 v) (off := 100) (by simp [St.cells]) (by simp [bts_len, hs.locked, hs.valid, hs.block])
  rw [this]
  simp [St.cells]
theorem put_waited {s : St} (hs : s.good) (v : Int) : put s.cells 101 [.int .i64 v] = ({s with waited := v} : St).cells := by
  have := put_one (cs := s.cells) (pre := .int .i64 s.round :: .int .i64 s.step :: (bts s.locked ++ .int .i64 s.lr :: (bts s.valid ++ .int .i64 s.vr :: (bts s.block ++ [.int .i64 s.waits])))) (post := []) (v := .int .i64 s.waited) (u := .int .i64 v) (off := 101) (by simp [St.cells]) (by simp [bts_len, hs.locked, hs.valid, hs.block])
  rw [this]
  simp [St.cells]
theorem made_rstate (s : St) (hs : s.good) : Tryd.prog.built 31 [(0, .int .i64 s.round), (1, .int .i64 s.step), (2, .agg (bts s.locked).toArray), (3, .int .i64 s.lr), (4, .agg (bts s.valid).toArray), (5, .int .i64 s.vr), (6, .agg (bts s.block).toArray), (7, .int .i64 s.waits), (8, .int .i64 s.waited)] = some s.cells.toArray := by
  have hz := zeros_len
  have g0 := St.zero_good
  have e0 : put St.zero.cells 0 [.int .i64 s.round] = St.cells ⟨s.round, 0, zeros, 0, zeros, 0, zeros, 0, 0⟩ := put_one (pre := []) rfl rfl
  have e1 : put (St.cells ⟨s.round, 0, zeros, 0, zeros, 0, zeros, 0, 0⟩) 1 [.int .i64 s.step] = St.cells ⟨s.round, s.step, zeros, 0, zeros, 0, zeros, 0, 0⟩ := put_one (pre := [.int .i64 s.round]) rfl rfl
  have g2 : St.good ⟨s.round, s.step, zeros, 0, zeros, 0, zeros, 0, 0⟩ := ⟨hz, hz, hz⟩
  have e2 := put_locked g2 hs.locked
  have g3 : St.good ⟨s.round, s.step, s.locked, 0, zeros, 0, zeros, 0, 0⟩ := ⟨hs.locked, hz, hz⟩
  have e3 := put_lr g3 s.lr
  have g4 : St.good ⟨s.round, s.step, s.locked, s.lr, zeros, 0, zeros, 0, 0⟩ := ⟨hs.locked, hz, hz⟩
  have e4 := put_valid g4 hs.valid
  have g5 : St.good ⟨s.round, s.step, s.locked, s.lr, s.valid, 0, zeros, 0, 0⟩ := ⟨hs.locked, hs.valid, hz⟩
  have e5 := put_vr g5 s.vr
  have g6 : St.good ⟨s.round, s.step, s.locked, s.lr, s.valid, s.vr, zeros, 0, 0⟩ := ⟨hs.locked, hs.valid, hz⟩
  have e6 := put_block g6 hs.block
  have g7 : St.good ⟨s.round, s.step, s.locked, s.lr, s.valid, s.vr, s.block, 0, 0⟩ := ⟨hs.locked, hs.valid, hs.block⟩
  have e7 := put_waits g7 s.waits
  have g8 : St.good ⟨s.round, s.step, s.locked, s.lr, s.valid, s.vr, s.block, s.waits, 0⟩ := ⟨hs.locked, hs.valid, hs.block⟩
  have e8 := put_waited g8 s.waited
  have l1 : St.good ⟨s.round, 0, zeros, 0, zeros, 0, zeros, 0, 0⟩ := ⟨hz, hz, hz⟩
  dsimp only at e2 e3 e4 e5 e6 e7 e8
  rw [built_rstate, fill_cons (off := 0) (n := 1) rfl rfl (by rw [St.cells_len g0]; omega)]
  rw [show (Value.int .i64 s.round).cells.toList = [.int .i64 s.round] from rfl, e0, fill_cons (off := 1) (n := 1) rfl rfl (by rw [St.cells_len l1]; omega)]
  rw [show (Value.int .i64 s.step).cells.toList = [.int .i64 s.step] from rfl, e1, fill_cons (off := 2) (n := 32) rfl (by simp [Value.cells, bts_len, hs.locked]) (by rw [St.cells_len g2]; omega)]
  rw [show (Value.agg (bts s.locked).toArray).cells.toList = bts s.locked from rfl, e2, fill_cons (off := 34) (n := 1) rfl rfl (by rw [St.cells_len g3]; omega)]
  rw [show (Value.int .i64 s.lr).cells.toList = [.int .i64 s.lr] from rfl, e3, fill_cons (off := 35) (n := 32) rfl (by simp [Value.cells, bts_len, hs.valid]) (by rw [St.cells_len g4]; omega)]
  rw [show (Value.agg (bts s.valid).toArray).cells.toList = bts s.valid from rfl, e4, fill_cons (off := 67) (n := 1) rfl rfl (by rw [St.cells_len g5]; omega)]
  rw [show (Value.int .i64 s.vr).cells.toList = [.int .i64 s.vr] from rfl, e5, fill_cons (off := 68) (n := 32) rfl (by simp [Value.cells, bts_len, hs.block]) (by rw [St.cells_len g6]; omega)]
  rw [show (Value.agg (bts s.block).toArray).cells.toList = bts s.block from rfl, e6, fill_cons (off := 100) (n := 1) rfl rfl (by rw [St.cells_len g7]; omega)]
  rw [show (Value.int .i64 s.waits).cells.toList = [.int .i64 s.waits] from rfl, e7, fill_cons (off := 101) (n := 1) rfl rfl (by rw [St.cells_len g8]; omega)]
  rw [show (Value.int .i64 s.waited).cells.toList = [.int .i64 s.waited] from rfl, e8, fill_nil]
def In.zero : In := ⟨0, 0, zeros, 0, false, zeros⟩
theorem built_rinput (parts : List (Nat × Value)) : Tryd.prog.built 36 parts = Instr.fill (fun i => #[(0, 1), (1, 1), (2, 32), (34, 1), (35, 1), (36, 32)][i]?) In.zero.cells.toArray parts := by kernel_rfl
theorem made_rinput (i : In) (hi : i.fits) : Tryd.prog.built 36 [(0, .int .i64 i.kind), (1, .int .i64 i.round), (2, .agg (bts i.block).toArray), (3, .int .i64 i.valid), (4, .bool i.good), (5, .agg (bts i.own).toArray)] = some i.cells.toArray := by
  have hz := zeros_len
  have l0 : In.fits ⟨0, 0, zeros, 0, false, zeros⟩ := ⟨hz, hz⟩
  have e0 : put In.zero.cells 0 [.int .i64 i.kind] = In.cells ⟨i.kind, 0, zeros, 0, false, zeros⟩ := put_one (pre := []) rfl rfl
  have l1 : In.fits ⟨i.kind, 0, zeros, 0, false, zeros⟩ := ⟨hz, hz⟩
  have e1 : put (In.cells ⟨i.kind, 0, zeros, 0, false, zeros⟩) 1 [.int .i64 i.round] = In.cells ⟨i.kind, i.round, zeros, 0, false, zeros⟩ := put_one (pre := [.int .i64 i.kind]) rfl rfl
  have l2 : In.fits ⟨i.kind, i.round, zeros, 0, false, zeros⟩ := ⟨hz, hz⟩
  have e2 : put (In.cells ⟨i.kind, i.round, zeros, 0, false, zeros⟩) 2 (bts i.block) = In.cells ⟨i.kind, i.round, i.block, 0, false, zeros⟩ := put_in_block l2 hi.block
  have l3 : In.fits ⟨i.kind, i.round, i.block, 0, false, zeros⟩ := ⟨hi.block, hz⟩
  have e3 : put (In.cells ⟨i.kind, i.round, i.block, 0, false, zeros⟩) 34 [.int .i64 i.valid] = In.cells ⟨i.kind, i.round, i.block, i.valid, false, zeros⟩ := put_one (pre := .int .i64 i.kind :: .int .i64 i.round :: bts i.block) rfl (by simp [bts_len, hi.block])
  have l4 : In.fits ⟨i.kind, i.round, i.block, i.valid, false, zeros⟩ := ⟨hi.block, hz⟩
  have e4 : put (In.cells ⟨i.kind, i.round, i.block, i.valid, false, zeros⟩) 35 [.bool i.good] = In.cells ⟨i.kind, i.round, i.block, i.valid, i.good, zeros⟩ := by
    have := put_one (cs := In.cells ⟨i.kind, i.round, i.block, i.valid, false, zeros⟩) (pre := .int .i64 i.kind :: .int .i64 i.round :: (bts i.block ++ [.int .i64 i.valid])) (post := bts zeros) (v := .bool false) (u := .bool i.good) (off := 35) (by simp [In.cells]) (by simp [bts_len, hi.block])
    rw [this]
    simp [In.cells]
  have l5 : In.fits ⟨i.kind, i.round, i.block, i.valid, i.good, zeros⟩ := ⟨hi.block, hz⟩
  have e5 : put (In.cells ⟨i.kind, i.round, i.block, i.valid, i.good, zeros⟩) 36 (bts i.own) = i.cells := by
    have := put_mid (.int .i64 i.kind :: .int .i64 i.round :: (bts i.block ++ [.int .i64 i.valid, .bool i.good])) (bts zeros) (bts i.own) [] 36 (by simp [bts_len, hi.block]) (by rw [bts_len, bts_len, hz, hi.own])
    simpa [In.cells] using this
  rw [built_rinput, fill_cons (off := 0) (n := 1) rfl rfl (by rw [show In.zero.cells.length = 68 from In.cells_len l0]; omega)]
  rw [show (Value.int .i64 i.kind).cells.toList = [.int .i64 i.kind] from rfl, e0, fill_cons (off := 1) (n := 1) rfl rfl (by rw [In.cells_len l1]; omega)]
  rw [show (Value.int .i64 i.round).cells.toList = [.int .i64 i.round] from rfl, e1, fill_cons (off := 2) (n := 32) rfl (by simp [Value.cells, bts_len, hi.block]) (by rw [In.cells_len l2]; omega)]
  rw [show (Value.agg (bts i.block).toArray).cells.toList = bts i.block from rfl, e2, fill_cons (off := 34) (n := 1) rfl rfl (by rw [In.cells_len l3]; omega)]
  rw [show (Value.int .i64 i.valid).cells.toList = [.int .i64 i.valid] from rfl, e3, fill_cons (off := 35) (n := 1) rfl rfl (by rw [In.cells_len l4]; omega)]
  rw [show (Value.bool i.good).cells.toList = [.bool i.good] from rfl, e4, fill_cons (off := 36) (n := 32) rfl (by simp [Value.cells, bts_len, hi.own]) (by rw [In.cells_len l5]; omega)]
  rw [show (Value.agg (bts i.own).toArray).cells.toList = bts i.own from rfl, e5, fill_nil]
theorem made_rnew : Tryd.prog.built 31 [(0, .int .i64 (-1)), (3, .int .i64 (-1)), (5, .int .i64 (-1)), (7, .int .i64 (-1)), (8, .int .i64 (-1))] = some St.new.cells.toArray := by kernel_rfl
theorem fields_rstate : ((Tryd.prog.fieldsOf 31).toList.map fun f => (f.name == "_", f.type, f.offset)) = stFields := by kernel_rfl
theorem rstate_eql (w : World) (s t : St) (hs : s.good) (ht : t.good) : (binOp .eql 31 (.agg s.cells.toArray) (.agg t.cells.toArray)).run Tryd.prog w = .ok (.bool (s.same t)) w := by
  rw [run_eql_struct, run_equalIn_struct w 9999 31 _ _ (by kernel_rfl) (by kernel_rfl), eqFields_by, fields_rstate, eqBy_state w s t hs ht]
  rfl
theorem run_rstate_eql {o : Oper} {a : Act} {w : World} (x y : Operand) (ty : TypeId) (ho : o.op = .binOp .eql 31 x y ty) (s t : St) (hs : s.good) (ht : t.good) (hx : a.eval x = .agg s.cells.toArray) (hy : a.eval y = .agg t.cells.toArray) :
    (execOp a.eval o).run Tryd.prog w = .ok (.value (.bool (s.same t))) w := by
  unfold execOp
  simp only [ho, hx, hy, Sem.run_bind, Result.andThen_ok, run_eqGuard_agg (P := Tryd.prog) w .eql 31 x y _ _ (by kernel_rfl), rstate_eql w s t hs ht, Sem.run_pure]
set_option maxRecDepth 100000 in
set_option maxHeartbeats 2000000 in
theorem rnew_any (w : World) : Calls Tryd.prog 16 #[] w fun e w' => e = .returned (.agg St.new.cells.toArray) ∧ Below w.heap.size w w' := by
  have hzs := zero_rstate
  have hsl := St.cells_len St.new_good
  have hzl := St.cells_len St.zero_good
  go_enter Tryd.func16, Tryd.ntmps16
  go_upto_region 1 with fail
  have hR := Bk.new w 31 St.zero.cells.toArray
  have hB : Below w.heap.size w (w.alloc (.cells St.zero.cells.toArray 31)) := (by (first | assumption | (repeat (first | exact Below.refl _ _ | assumption | apply Below.drew | apply below_drewN | (refine Below.setCell ?_ (by (try simp) <;> omega) _) | (refine Below.alloc ?_ (by (try simp) <;> omega) _)))))
  obtain ⟨w0, hw0⟩ : ∃ w0, w.alloc (.cells St.zero.cells.toArray 31) = w0 := ⟨_, rfl⟩
  obtain ⟨gr, hgr⟩ : ∃ gr, w.heap.size = gr := ⟨_, rfl⟩
  rw [hw0] at hR hB ⊢
  rw [hgr] at hR hB ⊢
  have HR := Lib.hid hR
  have HB := Lib.hid hB
  clear hw0 hzs hR hB
  go_wp2_with (first
    | (refine wpList_val (by rfl) (run_build_at 31 _ (by with_reducible rfl) St.new.cells (by exact made_rnew)) ?_)
    | (refine wpList_puts (by rfl) 31 _ _ (by with_reducible rfl) gr 0 (by rfl) St.new.cells (by rfl) 31 St.zero.cells (by exact HR.out) 102 hsl (by rw [hzl]; omega) hi_rstate St.one_cells ?_; intro w7 hb7 hm7 hz7; rw [put_all (by rw [hzl, hsl])] at hb7; have HB7 := Lib.hid hb7; have HM7 := Lib.hid hm7; clear hb7 hm7))
  refine bodyPost_ret (results_cell_row rfl _ _ gr 31 St.new.cells.toArray (0, 0) _ (by rfl) HB7.out Tryd.underlying31 rfl (by rw [hi_rstate]; simp [hsl])) rfl ?_
  refine ⟨rfl, ?_⟩
  rw [hgr]
  exact HB.out.trans (HM7.out.to_below (by have := HB.out.size; omega) (fun k _ e => by omega))
set_option maxRecDepth 100000 in
set_option maxHeartbeats 4000000 in
theorem told_any (s : St) (hs : s.good) (w : World) : Calls Tryd.prog 12 #[.agg s.cells.toArray] w fun e w' => e = .returned (.agg s.cells.toArray) ∧ Below w.heap.size w w' := by
  have hzs := zero_rstate
  have hsl := St.cells_len hs
  have hzl := St.cells_len St.zero_good
  have hll : (bts s.locked).length = 32 := by rw [bts_len, hs.locked]
  have hvl : (bts s.valid).length = 32 := by rw [bts_len, hs.valid]
  have hbl : (bts s.block).length = 32 := by rw [bts_len, hs.block]
  have HMK := Lib.hid (made_rstate s hs)
  go_enter Tryd.func12, Tryd.ntmps12
  go_upto_region 1 with fail
  have hS : Bk ((w.alloc (.cells s.cells.toArray 25)).alloc (.cells St.zero.cells.toArray 31)) w.heap.size 25 s.cells.toArray := (Bk.new w _ _).alloc _
  have hR := Bk.new (w.alloc (.cells s.cells.toArray 25)) 31 St.zero.cells.toArray
  have hB : Below w.heap.size w ((w.alloc (.cells s.cells.toArray 25)).alloc (.cells St.zero.cells.toArray 31)) := (by (first | assumption | (repeat (first | exact Below.refl _ _ | assumption | apply Below.drew | apply below_drewN | (refine Below.setCell ?_ (by (try simp) <;> omega) _) | (refine Below.alloc ?_ (by (try simp) <;> omega) _)))))
  have hR : Bk ((w.alloc (.cells s.cells.toArray 25)).alloc (.cells St.zero.cells.toArray 31)) (w.heap.size + 1) 31 St.zero.cells.toArray := by simpa using hR
  obtain ⟨w0, hw0⟩ : ∃ w0, ((w.alloc (.cells s.cells.toArray 25)).alloc (.cells St.zero.cells.toArray 31)) = w0 := ⟨_, rfl⟩
  rw [hw0] at hS hR hB ⊢
  obtain ⟨gs, hgs⟩ : ∃ gs, w.heap.size = gs := ⟨_, rfl⟩
  rw [hgs] at hS hR hB ⊢
  obtain ⟨gr, hgr⟩ : ∃ gr, gs + 1 = gr := ⟨_, rfl⟩
  rw [hgr] at hR ⊢
  obtain ⟨c0, c1, c2, c34, c35, c67, c68, c100, c101⟩ := st_out hS hs
  have HR := Lib.hid hR
  have HB := Lib.hid hB
  clear hw0 hzs hR hB hS
  go_wp2_with (first
    | (refine wpList_val (by rfl) (run_load_seg 23 _ (by with_reducible rfl) _ _ (by rfl) _ (by assumption) 32 (by assumption) _ hu_hash (by rfl) hi_hash) ?_)
    | (refine wpList_val (by rfl) (run_build_at 31 _ (by with_reducible rfl) s.cells (by exact HMK.out)) ?_)
    | (refine wpList_puts (by rfl) 31 _ _ (by with_reducible rfl) gr 0 (by rfl) s.cells (by rfl) 31 St.zero.cells (by exact HR.out) 102 hsl (by rw [hzl]; omega) hi_rstate St.one_cells ?_; intro w7 hb7 hm7 hz7; rw [put_all (by rw [hzl, hsl])] at hb7; have HB7 := Lib.hid hb7; have HM7 := Lib.hid hm7; clear hb7 hm7))
  refine bodyPost_ret (results_cell_row rfl _ _ gr 31 s.cells.toArray (0, 0) _ (by rfl) HB7.out Tryd.underlying31 rfl (by rw [hi_rstate]; simp [hsl])) rfl ?_
  refine ⟨rfl, ?_⟩
  rw [hgs]
  exact HB.out.trans (HM7.out.to_below (by have := HB.out.size; omega) (fun k _ e => by omega))
set_option maxRecDepth 100000 in
set_option maxHeartbeats 4000000 in
theorem said_any (oo : Option Out) (hoo : ∀ o, oo = some o → o.block.length = 32) (w : World) {N N' : Nat} {v u : Value} (ho : OutAt w N v oo) (hr : ROutAt w N' u oo) :
    Calls Tryd.prog 13 #[v, u] w fun e w' => e = .returned (.bool true) ∧ Below w.heap.size w w' := by
  cases oo with
  | none =>
    obtain rfl : v = .slice none 0 0 := ho
    obtain rfl : u = .slice none 0 0 := hr
    go_enter Tryd.func13, Tryd.ntmps13
    go_wp2_with fail
    refine wp_loop_rounds 1 ?_
    rw [rounds_succ]
    go_wp2_with fail
    go_ret
    exact ⟨rfl, (by (first | assumption | (repeat (first | exact Below.refl _ _ | assumption | apply Below.drew | apply below_drewN | (refine Below.setCell ?_ (by (try simp) <;> omega) _) | (refine Below.alloc ?_ (by (try simp) <;> omega) _)))))⟩
  | some o =>
    obtain ⟨bo, rfl, hb, hO⟩ := ho
    obtain ⟨br, rfl, hb', hR⟩ := hr
    have hol := hoo o rfl
    have hbl : (bts o.block).length = 32 := by rw [bts_len, hol]
    have HO := Lib.hid hO
    have HR := Lib.hid hR
    clear hO hR hoo
    have e1 : (o.kind != o.kind) = false := by simp
    have e2 : (o.round != o.round) = false := by simp
    have e3 : (o.valid != o.valid) = false := by simp
    have e4 : (!(o.block == o.block)) = false := by simp
    go_enter Tryd.func13, Tryd.ntmps13
    go_wp2_with fail
    refine wp_loop_rounds 2 ?_
    rw [rounds_succ]
    go_upto_region 6 with fail
    with_reducible refine wp_still_tail 49 (by kernel_rfl) (by kernel_rfl) fun wz hw => ?_
    simp only [List.take_succ_cons, List.take_zero, List.drop_succ_cons, List.drop_zero]
    have HOz : Hid (Bk wz bo 45 o.cells.toArray) := Lib.hid (by rw [hw]; exact HO.out.drew)
    have HRz : Hid (Bk wz br 53 o.cells.toArray) := Lib.hid (by rw [hw]; exact HR.out.drew)
    have HWz : Hid (Below w.heap.size w wz) := Lib.hid (by rw [hw]; exact (by (first | assumption | (repeat (first | exact Below.refl _ _ | assumption | apply Below.drew | apply below_drewN | (refine Below.setCell ?_ (by (try simp) <;> omega) _) | (refine Below.alloc ?_ (by (try simp) <;> omega) _))))))
    obtain ⟨a0, a1, a2, a34⟩ := out_out HOz.out hol
    obtain ⟨b0, b1, b2, b34⟩ := out_out HRz.out hol
    clear hw
    ((with_reducible refine wpStill_step (fun K hK => ?_)); go_simp; (with_reducible refine hK _ ?_); clear hK K)
    ((with_reducible refine wpStill_step (fun K hK => ?_)); go_simp; (with_reducible refine hK _ ?_); clear hK K)
    ((with_reducible refine wpStill_step (fun K hK => ?_)); go_simp; (with_reducible refine hK _ ?_); clear hK K)
    ((with_reducible refine wpStill_step (fun K hK => ?_)); go_simp; (with_reducible refine hK _ ?_); clear hK K)
    ((with_reducible refine wpStill_step (fun K hK => ?_)); go_simp; (with_reducible refine hK _ ?_); clear hK K)
    ((with_reducible refine wpStill_step (fun K hK => ?_)); go_simp; (with_reducible refine hK _ ?_); clear hK K)
    ((with_reducible refine wpStill_step (fun K hK => ?_)); go_simp; (with_reducible refine hK _ ?_); clear hK K)
    ((with_reducible refine wpStill_step (fun K hK => ?_)); go_simp; (with_reducible refine hK _ ?_); clear hK K)
    ((with_reducible refine wpStill_step (fun K hK => ?_)); go_simp; (with_reducible refine hK _ ?_); clear hK K)
    ((with_reducible refine wpStill_step (fun K hK => ?_)); go_simp; (with_reducible refine hK _ ?_); clear hK K)
    ((with_reducible refine wpStill_step (fun K hK => ?_)); go_simp; (with_reducible refine hK _ ?_); clear hK K)
    ((with_reducible refine wpStill_step (fun K hK => ?_)); go_simp; (with_reducible refine hK _ ?_); clear hK K)
    ((with_reducible refine wpStill_step (fun K hK => ?_)); go_simp; (with_reducible refine hK _ ?_); clear hK K)
    ((with_reducible refine wpStill_step (fun K hK => ?_)); go_simp; (with_reducible refine hK _ ?_); clear hK K)
    ((with_reducible refine wpStill_step (fun K hK => ?_)); go_simp; (with_reducible refine hK _ ?_); clear hK K)
    ((with_reducible refine wpStill_step (fun K hK => ?_)); go_simp; (with_reducible refine hK _ ?_); clear hK K)
    ((with_reducible refine wpStill_step (fun K hK => ?_)); go_simp; (with_reducible refine hK _ ?_); clear hK K)
    ((with_reducible refine wpStill_step (fun K hK => ?_)); go_simp; (with_reducible refine hK _ ?_); clear hK K)
    ((with_reducible refine wpStill_step (fun K hK => ?_)); go_simp; (with_reducible refine hK _ ?_); clear hK K)
    ((with_reducible refine wpStill_step (fun K hK => ?_)); go_simp; (with_reducible refine hK _ ?_); clear hK K)
    ((with_reducible refine wpStill_step (fun K hK => ?_)); go_simp; (with_reducible refine hK _ ?_); clear hK K)
    ((with_reducible refine wpStill_step (fun K hK => ?_)); go_simp; (with_reducible refine hK _ ?_); clear hK K)
    ((with_reducible refine wpStill_step (fun K hK => ?_)); go_simp; (with_reducible refine hK _ ?_); clear hK K)
    ((with_reducible refine wpStill_step (fun K hK => ?_)); go_simp; (with_reducible refine hK _ ?_); clear hK K)
    ((with_reducible refine wpStill_step (fun K hK => ?_)); go_simp; (with_reducible refine hK _ ?_); clear hK K)
    ((with_reducible refine wpStill_step (fun K hK => ?_)); go_simp; (with_reducible refine hK _ ?_); clear hK K)
    ((with_reducible refine wpStill_step (fun K hK => ?_)); go_simp; (with_reducible refine hK _ ?_); clear hK K)
    ((with_reducible refine wpStill_step (fun K hK => ?_)); go_simp; (with_reducible refine hK _ ?_); clear hK K)
    ((with_reducible refine wpStill_step (fun K hK => ?_)); go_simp; (with_reducible refine hK _ ?_); clear hK K)
    ((with_reducible apply wpStill_val); (case hw => rfl); (case hr => exact run_load_seg 23 _ (by rfl) _ _ (by rfl) _ (by assumption) 32 (by assumption) _ hu_hash (by rfl) hi_hash))
    ((with_reducible refine wpStill_step (fun K hK => ?_)); go_simp; (with_reducible refine hK _ ?_); clear hK K)
    ((with_reducible refine wpStill_step (fun K hK => ?_)); go_simp; (with_reducible refine hK _ ?_); clear hK K)
    ((with_reducible refine wpStill_step (fun K hK => ?_)); go_simp; (with_reducible refine hK _ ?_); clear hK K)
    ((with_reducible refine wpStill_step (fun K hK => ?_)); go_simp; (with_reducible refine hK _ ?_); clear hK K)
    ((with_reducible apply wpStill_val); (case hw => rfl); (case hr => exact run_load_seg 23 _ (by rfl) _ _ (by rfl) _ (by assumption) 32 (by assumption) _ hu_hash (by rfl) hi_hash))
    ((with_reducible apply wpStill_val); (case hw => rfl); (case hr => exact run_bytes_neq 23 5 _ _ _ (by rfl) 32 hu_hash Tryd.underlying5 hs_u8 hm_hash _ _ (by rfl) (by rfl) (by assumption) (by assumption)))
    ((with_reducible refine wpStill_step (fun K hK => ?_)); go_simp; (with_reducible refine hK _ ?_); clear hK K)
    ((with_reducible refine wpStill_step (fun K hK => ?_)); go_simp; (with_reducible refine hK _ ?_); clear hK K)
    ((with_reducible refine wpStill_step (fun K hK => ?_)); go_simp; (with_reducible refine hK _ ?_); clear hK K)
    ((with_reducible refine wpStill_step (fun K hK => ?_)); go_simp; (with_reducible refine hK _ ?_); clear hK K)
    ((with_reducible refine wpStill_step (fun K hK => ?_)); go_simp; (with_reducible refine hK _ ?_); clear hK K)
    ((with_reducible refine wpStill_step (fun K hK => ?_)); go_simp; (with_reducible refine hK _ ?_); clear hK K)
    ((with_reducible refine wpStill_step (fun K hK => ?_)); go_simp; (with_reducible refine hK _ ?_); clear hK K)
    ((with_reducible refine wpStill_step (fun K hK => ?_)); go_simp; (with_reducible refine hK _ ?_); clear hK K)
    ((with_reducible refine wpStill_step (fun K hK => ?_)); go_simp; (with_reducible refine hK _ ?_); clear hK K)
    ((with_reducible refine wpStill_step (fun K hK => ?_)); go_simp; (with_reducible refine hK _ ?_); clear hK K)
    ((with_reducible refine wpStill_step (fun K hK => ?_)); go_simp; (with_reducible refine hK _ ?_); clear hK K)
    ((with_reducible refine wpStill_step (fun K hK => ?_)); go_simp; (with_reducible refine hK _ ?_); clear hK K)
    ((with_reducible refine wpStill_step (fun K hK => ?_)); go_simp; (with_reducible refine hK _ ?_); clear hK K)
    with_reducible refine wpStill_nil ?_
    go_wp2_with fail
    rw [rounds_succ]
    go_wp2_with fail
    go_ret
    exact ⟨rfl, HWz.out⟩
end Go.Proofs.YtlhnhdkbfkbafaaDoor

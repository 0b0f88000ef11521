/- What this text proves: the contracts of New and of the laws' live question. The conditions are that the package's empty hash is empty. -/
import Derived.Test.YtlhnhdkbfkbafaaDoorStepAll
namespace Go.Proofs.YtlhnhdkbfkbafaaDoor
open Go.RowKit
set_option linter.unusedVariables false
set_option linter.unusedSimpArgs false

def St.new : St := ⟨-1, 0, zeros, -1, zeros, -1, zeros, -1, -1⟩
theorem St.new_good : St.new.good := ⟨zeros_len, zeros_len, zeros_len⟩
def ownH : List UInt8 := 1 :: List.replicate 31 0
theorem own_len : ownH.length = 32 := by simp [ownH]
def liveIn : In := ⟨1, 0, zeros, 0, false, ownH⟩
theorem live_fits : liveIn.fits := ⟨zeros_len, own_len⟩
theorem made_new : Tryd.prog.built 25 [(0, .int .i64 (-1)), (3, .int .i64 (-1)), (5, .int .i64 (-1)), (7, .int .i64 (-1)), (8, .int .i64 (-1))] = some St.new.cells.toArray := by kernel_rfl
theorem made_own : Tryd.prog.built 23 [(0, .int .u8 1)] = some (bts ownH).toArray := by kernel_rfl
theorem made_live : Tryd.prog.built 27 [(0, .int .i64 1), (5, .agg (bts ownH).toArray)] = some liveIn.cells.toArray := by kernel_rfl
theorem step_live : stepF St.new liveIn = ({St.new with round := 0, step := 1}, some ⟨1, 0, ownH, -1⟩) := by
  have h : ¬ ownH = zeros := by decide
  simp [stepF, St.new, liveIn, beginOut, h]

set_option maxRecDepth 100000 in
set_option maxHeartbeats 2000000 in
theorem new_any (w : World) : Calls Tryd.prog 15 #[] w fun e w' => e = .returned (.agg St.new.cells.toArray) ∧ Below w.heap.size w w' := by
  have hzs := zero_state
  have hsl := St.cells_len St.new_good
  have hzl := St.cells_len St.zero_good
  go_enter Tryd.func15, Tryd.ntmps15
  go_upto_region 1 with fail
  have hR := Bk.new w 25 St.zero.cells.toArray
  have hB : Below w.heap.size w (w.alloc (.cells St.zero.cells.toArray 25)) := (by (first | assumption | (repeat (first | exact Below.refl _ _ | assumption | apply Below.drew | apply below_drewN | (refine Below.setCell ?_ (by (try simp) <;> omega) _) | (refine Below.alloc ?_ (by (try simp) <;> omega) _)))))
  obtain ⟨w0, hw0⟩ : ∃ w0, w.alloc (.cells St.zero.cells.toArray 25) = w0 := ⟨_, rfl⟩
  obtain ⟨gr, hgr⟩ : ∃ gr, w.heap.size = gr := ⟨_, rfl⟩
  rw [hw0] at hR hB ⊢
  rw [hgr] at hR hB ⊢
  have HR := Lib.hid hR
  have HB := Lib.hid hB
  clear hw0 hzs hR hB
  go_wp2_with (first
    | (refine wpList_val (by rfl) (run_build_at 25 _ (by with_reducible rfl) St.new.cells (by exact made_new)) ?_)
    | (refine wpList_puts (by rfl) 25 _ _ (by with_reducible rfl) gr 0 (by rfl) St.new.cells (by rfl) 25 St.zero.cells (by exact HR.out) 102 hsl (by rw [hzl]; omega) hi_state St.one_cells ?_; intro w7 hb7 hm7 hz7; rw [put_all (by rw [hzl, hsl])] at hb7; have HB7 := Lib.hid hb7; have HM7 := Lib.hid hm7; clear hb7 hm7))
  refine bodyPost_ret (results_cell_row rfl _ _ gr 25 St.new.cells.toArray (0, 0) _ (by rfl) HB7.out Tryd.underlying25 rfl (by rw [hi_state]; simp [hsl])) rfl ?_
  refine ⟨rfl, ?_⟩
  rw [hgr]
  exact HB.out.trans (HM7.out.to_below (by have := HB.out.size; omega) (fun k _ e => by omega))

def St.live : St := ⟨0, 1, zeros, -1, zeros, -1, zeros, -1, -1⟩
theorem St.live_good : St.live.good := ⟨zeros_len, zeros_len, zeros_len⟩
theorem live_at {w : World} (hn : None0 w) : Calls Tryd.prog 10 #[.agg St.new.cells.toArray, .agg liveIn.cells.toArray] w (StepTold w (St.live, some ⟨1, 0, ownH, -1⟩)) := by
  have h := step_any St.new liveIn w St.new_good live_fits hn
  rw [step_live] at h
  exact h
set_option maxRecDepth 100000 in
set_option maxHeartbeats 4000000 in
theorem alive_any (w : World) (hn : None0 w) : Calls Tryd.prog 14 #[] w fun e w' => e = .returned (.bool true) ∧ Below w.heap.size w w' := by
  have hzs := zero_state
  have hsl := St.cells_len St.live_good
  have hzl := St.cells_len St.zero_good
  have HN := Lib.hid hn
  clear hn
  go_enter Tryd.func14, Tryd.ntmps14
  go_wp2_with fail
  with_reducible refine (new_any w).mono ?_
  rintro e w1 ⟨rfl, hb1⟩
  have HB1 := Lib.hid hb1
  have HN1 : Hid (None0 w1) := Lib.hid (rangeAt_below HN.out hb1 HN.out.size)
  clear hb1
  go_wp2_with (first
    | (refine wpList_val (by rfl) (run_build_at 23 _ (by with_reducible rfl) (bts ownH) (by exact made_own)) ?_)
    | (refine wpList_val (by rfl) (run_build_at 27 _ (by with_reducible rfl) liveIn.cells (by exact made_live)) ?_))
  with_reducible refine (live_at HN1.out).mono ?_
  rintro e w2 ⟨v, rfl, ho, hb2⟩
  obtain ⟨b, rfl, hb, hO⟩ := ho
  have HB2 := Lib.hid hb2
  have HO := Lib.hid hO
  have hbl := hO.lt
  clear hb2 hO
  have hR := Bk.new w2 25 St.zero.cells.toArray
  obtain ⟨gr, hgr⟩ : ∃ gr, w2.heap.size = gr := ⟨_, rfl⟩
  rw [hgr] at hR hbl
  have HR := Lib.hid hR
  have hbn : b ≠ gr := by omega
  clear hR
  go_wp2_with (refine wpList_puts (by rfl) 25 _ _ (by with_reducible rfl) gr 0 (by rfl) St.live.cells (by rfl) 25 St.zero.cells (by exact HR.out) 102 hsl (by rw [hzl]; omega) hi_state St.one_cells ?_; intro w7 hb7 hm7 hz7; rw [put_all (by rw [hzl, hsl])] at hb7; have HM7 := Lib.hid hm7; have c0 : w7.cell? ⟨gr, 0, none⟩ = some (.int .i64 0) := (st_out hb7 St.live_good).1; have c1 : w7.cell? ⟨gr, 1, none⟩ = some (.int .i64 1) := (st_out hb7 St.live_good).2.1; have o0 : w7.cell? ⟨b, 0, none⟩ = some (.int .i64 1) := (out_out (hm7.bk (HO.out.alloc _) (by omega)) own_len).1; have o34 : w7.cell? ⟨b, 34, none⟩ = some (.int .i64 (-1)) := (out_out (hm7.bk (HO.out.alloc _) (by omega)) own_len).2.2.2; clear hb7 hm7)
  go_ret
  refine ⟨by rfl, ?_⟩
  have hs1 := HB1.out.size
  have hs2 := HB2.out.size
  have h12 : Below w.heap.size w w2 := HB1.out.trans (HB2.out.mono hs1)
  have h3 := h12.alloc (by omega) (.cells St.zero.cells.toArray 25)
  exact h3.trans (HM7.out.to_below h3.size (fun k _ e => by omega))
end Go.Proofs.YtlhnhdkbfkbafaaDoor

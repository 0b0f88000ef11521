/- What this text proves: how a height's state, an input and an output lie in memory, and the contract of the function that makes an output. The conditions are that hashes have 32 bytes. -/
import Derived.Test.YtlhnhdkbfkbafaaDoorProg
import Derived.Test.YtlhnhdkbfkbafaaDoorAgg
import Derived.WalkKit
namespace Go.Proofs.YtlhnhdkbfkbafaaDoor
open Go.RowKit
set_option linter.unusedVariables false
set_option linter.unusedSimpArgs false

structure St where
  round : Int
  step : Int
  locked : List UInt8
  lr : Int
  valid : List UInt8
  vr : Int
  block : List UInt8
  waits : Int
  waited : Int
structure St.good (s : St) : Prop where
  locked : s.locked.length = 32
  valid : s.valid.length = 32
  block : s.block.length = 32
def St.cells (s : St) : List Value := .int .i64 s.round :: .int .i64 s.step :: (bts s.locked ++ (.int .i64 s.lr :: (bts s.valid ++ (.int .i64 s.vr :: (bts s.block ++ [.int .i64 s.waits, .int .i64 s.waited])))))
structure In where
  kind : Int
  round : Int
  block : List UInt8
  valid : Int
  good : Bool
  own : List UInt8
structure In.fits (i : In) : Prop where
  block : i.block.length = 32
  own : i.own.length = 32
def In.cells (i : In) : List Value := .int .i64 i.kind :: .int .i64 i.round :: (bts i.block ++ (.int .i64 i.valid :: .bool i.good :: bts i.own))
structure Out where
  kind : Int
  round : Int
  block : List UInt8
  valid : Int
def Out.cells (o : Out) : List Value := .int .i64 o.kind :: .int .i64 o.round :: (bts o.block ++ [.int .i64 o.valid])
def zeros : List UInt8 := List.replicate 32 0
theorem zeros_len : zeros.length = 32 := by simp [zeros]
theorem St.cells_len {s : St} (h : s.good) : s.cells.length = 102 := by simp [St.cells, bts_len, h.locked, h.valid, h.block]
theorem In.cells_len {i : In} (h : i.fits) : i.cells.length = 68 := by simp [In.cells, bts_len, h.block, h.own]
theorem Out.cells_len {o : Out} (h : o.block.length = 32) : o.cells.length = 35 := by simp [Out.cells, bts_len, h]

/-- The closed facts on types. -/
theorem hu_hash : Tryd.prog.underlying 23 = some (.array 32 5) := Tryd.underlying23
theorem hi_hash : (Tryd.prog.info? 23).map (·.size) = some 32 := by kernel_rfl
theorem hi_state : (Tryd.prog.info? 25).map (·.size) = some 102 := by kernel_rfl
theorem hi_input : (Tryd.prog.info? 27).map (·.size) = some 68 := by kernel_rfl
theorem hi_output : (Tryd.prog.info? 45).map (·.size) = some 35 := by kernel_rfl
theorem hm_hash : Tryd.prog.eqGuardType Tryd.prog.depth 23 = false := by kernel_rfl
theorem hs_u8 : ∀ w, (sizeOf 5).run Tryd.prog w = .ok 1 w := fun w => Tryd.sizeOf5 w

def z8 : List Value := bts zeros
theorem built_out (parts : List (Nat × Value)) : Tryd.prog.built 45 parts = Instr.fill (fun i => #[(0, 1), (1, 1), (2, 32), (34, 1)][i]?) (Out.cells ⟨0, 0, zeros, 0⟩).toArray parts := by kernel_rfl
theorem put_one {cs pre post : List Value} {off : Nat} {v u : Value} (hcs : cs = pre ++ (v :: post)) (hp : pre.length = off) : put cs off [u] = pre ++ (u :: post) := by
  have := put_mid pre [v] [u] post off hp rfl
  rw [hcs]
  exact this
theorem made_out (k r v : Int) (h : List UInt8) (hl : h.length = 32) : Tryd.prog.built 45 [(0, .int .i64 k), (1, .int .i64 r), (2, .agg (bts h).toArray), (3, .int .i64 v)] = some (Out.cells ⟨k, r, h, v⟩).toArray := by
  have hz := zeros_len
  have l0 : (Out.cells ⟨0, 0, zeros, 0⟩).length = 35 := Out.cells_len hz
  have e1 : put (Out.cells ⟨0, 0, zeros, 0⟩) 0 [.int .i64 k] = Out.cells ⟨k, 0, zeros, 0⟩ := put_one (pre := []) rfl rfl
  have e2 : put (Out.cells ⟨k, 0, zeros, 0⟩) 1 [.int .i64 r] = Out.cells ⟨k, r, zeros, 0⟩ := put_one (pre := [.int .i64 k]) rfl rfl
  have e3 : put (Out.cells ⟨k, r, zeros, 0⟩) 2 (bts h) = Out.cells ⟨k, r, h, 0⟩ := put_mid [.int .i64 k, .int .i64 r] (bts zeros) (bts h) [.int .i64 0] 2 rfl (by rw [bts_len, bts_len, hz, hl])
  have e4 : put (Out.cells ⟨k, r, h, 0⟩) 34 [.int .i64 v] = Out.cells ⟨k, r, h, v⟩ := put_one (pre := .int .i64 k :: .int .i64 r :: bts h) rfl (by simp [bts_len, hl])
  rw [built_out, fill_cons (off := 0) (n := 1) rfl rfl (by rw [l0]; omega)]
  rw [show (Value.int .i64 k).cells.toList = [.int .i64 k] from rfl, e1, fill_cons (off := 1) (n := 1) rfl rfl (by rw [Out.cells_len hz]; omega)]
  rw [show (Value.int .i64 r).cells.toList = [.int .i64 r] from rfl, e2, fill_cons (off := 2) (n := 32) rfl (by simp [Value.cells, bts_len, hl]) (by rw [Out.cells_len hz]; omega)]
  rw [show (Value.agg (bts h).toArray).cells.toList = bts h from rfl, e3, fill_cons (off := 34) (n := 1) rfl rfl (by rw [Out.cells_len hl]; omega)]
  rw [show (Value.int .i64 v).cells.toList = [.int .i64 v] from rfl, e4, fill_nil]

set_option maxHeartbeats 1000000 in
theorem say_any (k r v : Int) (h : List UInt8) (hl : h.length = 32) (w : World) :
    Calls Tryd.prog 18 #[.int .i64 k, .int .i64 r, .agg (bts h).toArray, .int .i64 v] w fun e w' => ∃ b, e = .returned (.slice (some ⟨b, 0, none⟩) 1 1) ∧ w.heap.size ≤ b ∧ Bk w' b 45 (Out.cells ⟨k, r, h, v⟩).toArray ∧ Below w.heap.size w w' := by
  have hbt : (bts h).length = 32 := by rw [bts_len, hl]
  have hr : (w.alloc (.cells (bts h).toArray 23)).rangeAt w.heap.size 0 (bts h) := (Bk.new w 23 (bts h).toArray).seg 0 [] (bts h) [] (by simp) rfl
  have HB := Lib.hid (made_out k r v h hl)
  have hol := Out.cells_len (o := ⟨k, r, h, v⟩) hl
  have HOL := Lib.hid hol
  have HBT := Lib.hid hbt
  have HR := Lib.hid hr
  clear hbt hr hol hl
  go_enter Tryd.func18, Tryd.ntmps18
  go_wp2_with (first
    | (refine wpList_val (by rfl) (run_load_seg 23 _ (by with_reducible rfl) w.heap.size 0 (by rfl) (bts h) HR.out 32 HBT.out _ hu_hash (by rfl) hi_hash) ?_)
    | (refine wpList_val (by rfl) (run_build_at 45 _ (by with_reducible rfl) (Out.cells ⟨k, r, h, v⟩) (by exact HB.out)) ?_)
    | (refine wpList_new (by rfl) (run_slice_one 28 45 _ (by with_reducible rfl) Tryd.underlying28 (Out.cells ⟨k, r, h, v⟩) (by rfl) 35 HOL.out (by omega) (by omega) (fun w => Tryd.sizeOf45 w) _ (fun w => Tryd.zeroValue45 w)) ?_))
  go_ret
  refine ⟨_, rfl, by simp, ?_, (by (first | assumption | (repeat (first | exact Below.refl _ _ | assumption | apply Below.drew | apply below_drewN | (refine Below.setCell ?_ (by (try simp) <;> omega) _) | (refine Below.alloc ?_ (by (try simp) <;> omega) _)))))⟩
  have := Bk.new (w.alloc (.cells (bts h).toArray 23)) 45 (Out.cells ⟨k, r, h, v⟩).toArray
  simpa using this
end Go.Proofs.YtlhnhdkbfkbafaaDoor

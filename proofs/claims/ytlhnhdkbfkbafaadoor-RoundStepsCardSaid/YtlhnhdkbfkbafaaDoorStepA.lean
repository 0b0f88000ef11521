/- What this text proves: parts of the contract of a height's step. The conditions are that hashes have 32 bytes, and that the package's empty hash is empty. -/
import Derived.Test.YtlhnhdkbfkbafaaDoorRoundStep
namespace Go.Proofs.YtlhnhdkbfkbafaaDoor
open Go.RowKit
set_option linter.unusedVariables false
set_option linter.unusedSimpArgs false

set_option maxRecDepth 100000 in
set_option maxHeartbeats 2000000 in
theorem stepL_a1 (s : St) (i : In) (w : World) (hs : s.good) (hi : i.fits) (hn : None0 w) (h1 : i.round < 0) :
    Calls Tryd.prog 10 #[.agg s.cells.toArray, .agg i.cells.toArray] w (StepTold w (stepF s i)) := by
  have hg0 : 0 < w.heap.size := hn.size
  have hzs := zero_state
  have hz := zeros_len
  have hzl : (bts zeros).length = 32 := by rw [bts_len, zeros_len]
  have hbl : (bts i.block).length = 32 := by rw [bts_len, hi.block]
  have hib := hi.block
  have hcl := In.cells_len hi
  have hsl := St.cells_len hs
  go_enter Tryd.func10, Tryd.ntmps10
  go_upto_region 1 with fail
  have HA0 := Lib.hid (show At (((w.alloc (.cells s.cells.toArray 25)).alloc (.cells i.cells.toArray 27)).alloc (.cells St.zero.cells.toArray 25)) w.heap.size (w.heap.size + 1) s i from ⟨((Bk.new w 25 s.cells.toArray).alloc _).alloc _, by have := (Bk.new (w.alloc (.cells s.cells.toArray 25)) 27 i.cells.toArray).alloc (.cells St.zero.cells.toArray 25); simpa using this, World.rangeAt_alloc (World.rangeAt_alloc (World.rangeAt_alloc hn _) _) _⟩)
  have HR0 := Lib.hid (show Bk (((w.alloc (.cells s.cells.toArray 25)).alloc (.cells i.cells.toArray 27)).alloc (.cells St.zero.cells.toArray 25)) (w.heap.size + 1 + 1) 25 St.zero.cells.toArray from by have := Bk.new ((w.alloc (.cells s.cells.toArray 25)).alloc (.cells i.cells.toArray 27)) 25 St.zero.cells.toArray; simpa using this)
  have HB0 := Lib.hid (show Below w.heap.size w (((w.alloc (.cells s.cells.toArray 25)).alloc (.cells i.cells.toArray 27)).alloc (.cells St.zero.cells.toArray 25)) from (by (first | assumption | (repeat (first | exact Below.refl _ _ | assumption | apply Below.drew | apply below_drewN | (refine Below.setCell ?_ (by (try simp) <;> omega) _) | (refine Below.alloc ?_ (by (try simp) <;> omega) _))))))
  obtain ⟨w0, hw0⟩ : ∃ w0, ((w.alloc (.cells s.cells.toArray 25)).alloc (.cells i.cells.toArray 27)).alloc (.cells St.zero.cells.toArray 25) = w0 := ⟨_, rfl⟩
  have hsz : w0.heap.size = w.heap.size + 1 + 1 + 1 := by rw [← hw0]; simp
  obtain ⟨gs, hgs⟩ : ∃ gs, w.heap.size = gs := ⟨_, rfl⟩
  rw [hw0] at HA0 HR0 HB0 ⊢
  rw [hgs] at HA0 HR0 HB0 hsz hg0 ⊢
  obtain ⟨gi, hgi⟩ : ∃ gi, gs + 1 = gi := ⟨_, rfl⟩
  rw [hgi] at HA0 HR0 hsz ⊢
  obtain ⟨gr, hgr⟩ : ∃ gr, gi + 1 = gr := ⟨_, rfl⟩
  rw [hgr] at HR0 hsz ⊢
  have HNN : Hid (None0 w0) := Lib.hid HA0.out.N
  clear hw0 hzs hn
  obtain ⟨c0, c1, c2, c34, c35, c67, c68, c100, c101⟩ := st_out HA0.out.S hs
  obtain ⟨d0, d1, d2, d34, d35, d36⟩ := in_out HA0.out.I hi
  have dd := HA0.out.whole
  have hN := HA0.out.N
  have el : decide (i.round < 0) = true := by simpa using h1
  have hsr := HA0.out.S.all
  have hlr := hsl
  have HRR := Lib.hid HR0.out
  have HBB := Lib.hid HB0.out
  have HO := Lib.hid (show OutAt w0 (gr + 1) (.slice none 0 0) none from rfl)
  go_wp2_with (first | (refine wpList_val (by rfl) (run_load_seg 25 _ (by with_reducible rfl) gs 0 (by rfl) _ (by assumption) 102 (by assumption) _ Tryd.underlying25 (by rfl) hi_state) ?_) | (refine wpList_puts (by rfl) 25 _ _ (by with_reducible rfl) gr 0 (by rfl) (St.cells s) (by rfl) 25 St.zero.cells (by exact HRR.out) 102 (by assumption) (by rw [St.cells_len St.zero_good]; omega) hi_state St.one_cells ?_; intro w7 hb7 hm7 hz7; rw [put_all (by rw [St.cells_len St.zero_good]; assumption)] at hb7; have HB7 := Lib.hid hb7; have HM7 := Lib.hid hm7; clear hb7 hm7))
  refine bodyPost_ret (step_results (s := s) (hs) HB7.out (by rfl) (by rfl)) rfl ?_
  exact step_end (N := gr + 1) HO.out (by omega) (by omega) HM7.out (by rw [hgs]; exact HBB.out) (by first | (simp [stepF, h1]; done) | (simp [stepF, h1]; intros; omega))

set_option maxRecDepth 100000 in
set_option maxHeartbeats 2000000 in
theorem stepL_a2 (s : St) (i : In) (w : World) (hs : s.good) (hi : i.fits) (hn : None0 w) (h1 : ¬ i.round < 0) (h2 : 1048576 < i.round) :
    Calls Tryd.prog 10 #[.agg s.cells.toArray, .agg i.cells.toArray] w (StepTold w (stepF s i)) := by
  have hg0 : 0 < w.heap.size := hn.size
  have hzs := zero_state
  have hz := zeros_len
  have hzl : (bts zeros).length = 32 := by rw [bts_len, zeros_len]
  have hbl : (bts i.block).length = 32 := by rw [bts_len, hi.block]
  have hib := hi.block
  have hcl := In.cells_len hi
  have hsl := St.cells_len hs
  go_enter Tryd.func10, Tryd.ntmps10
  go_upto_region 1 with fail
  have HA0 := Lib.hid (show At (((w.alloc (.cells s.cells.toArray 25)).alloc (.cells i.cells.toArray 27)).alloc (.cells St.zero.cells.toArray 25)) w.heap.size (w.heap.size + 1) s i from ⟨((Bk.new w 25 s.cells.toArray).alloc _).alloc _, by have := (Bk.new (w.alloc (.cells s.cells.toArray 25)) 27 i.cells.toArray).alloc (.cells St.zero.cells.toArray 25); simpa using this, World.rangeAt_alloc (World.rangeAt_alloc (World.rangeAt_alloc hn _) _) _⟩)
  have HR0 := Lib.hid (show Bk (((w.alloc (.cells s.cells.toArray 25)).alloc (.cells i.cells.toArray 27)).alloc (.cells St.zero.cells.toArray 25)) (w.heap.size + 1 + 1) 25 St.zero.cells.toArray from by have := Bk.new ((w.alloc (.cells s.cells.toArray 25)).alloc (.cells i.cells.toArray 27)) 25 St.zero.cells.toArray; simpa using this)
  have HB0 := Lib.hid (show Below w.heap.size w (((w.alloc (.cells s.cells.toArray 25)).alloc (.cells i.cells.toArray 27)).alloc (.cells St.zero.cells.toArray 25)) from (by (first | assumption | (repeat (first | exact Below.refl _ _ | assumption | apply Below.drew | apply below_drewN | (refine Below.setCell ?_ (by (try simp) <;> omega) _) | (refine Below.alloc ?_ (by (try simp) <;> omega) _))))))
  obtain ⟨w0, hw0⟩ : ∃ w0, ((w.alloc (.cells s.cells.toArray 25)).alloc (.cells i.cells.toArray 27)).alloc (.cells St.zero.cells.toArray 25) = w0 := ⟨_, rfl⟩
  have hsz : w0.heap.size = w.heap.size + 1 + 1 + 1 := by rw [← hw0]; simp
  obtain ⟨gs, hgs⟩ : ∃ gs, w.heap.size = gs := ⟨_, rfl⟩
  rw [hw0] at HA0 HR0 HB0 ⊢
  rw [hgs] at HA0 HR0 HB0 hsz hg0 ⊢
  obtain ⟨gi, hgi⟩ : ∃ gi, gs + 1 = gi := ⟨_, rfl⟩
  rw [hgi] at HA0 HR0 hsz ⊢
  obtain ⟨gr, hgr⟩ : ∃ gr, gi + 1 = gr := ⟨_, rfl⟩
  rw [hgr] at HR0 hsz ⊢
  have HNN : Hid (None0 w0) := Lib.hid HA0.out.N
  clear hw0 hzs hn
  obtain ⟨c0, c1, c2, c34, c35, c67, c68, c100, c101⟩ := st_out HA0.out.S hs
  obtain ⟨d0, d1, d2, d34, d35, d36⟩ := in_out HA0.out.I hi
  have dd := HA0.out.whole
  have hN := HA0.out.N
  have el : decide (i.round < 0) = false := by simpa using h1
  have em : decide (1048576 < i.round) = true := by simpa using h2
  have hsr := HA0.out.S.all
  have hlr := hsl
  have HRR := Lib.hid HR0.out
  have HBB := Lib.hid HB0.out
  have HO := Lib.hid (show OutAt w0 (gr + 1) (.slice none 0 0) none from rfl)
  go_wp2_with (first | (refine wpList_val (by rfl) (run_load_seg 25 _ (by with_reducible rfl) gs 0 (by rfl) _ (by assumption) 102 (by assumption) _ Tryd.underlying25 (by rfl) hi_state) ?_) | (refine wpList_puts (by rfl) 25 _ _ (by with_reducible rfl) gr 0 (by rfl) (St.cells s) (by rfl) 25 St.zero.cells (by exact HRR.out) 102 (by assumption) (by rw [St.cells_len St.zero_good]; omega) hi_state St.one_cells ?_; intro w7 hb7 hm7 hz7; rw [put_all (by rw [St.cells_len St.zero_good]; assumption)] at hb7; have HB7 := Lib.hid hb7; have HM7 := Lib.hid hm7; clear hb7 hm7))
  refine bodyPost_ret (step_results (s := s) (hs) HB7.out (by rfl) (by rfl)) rfl ?_
  exact step_end (N := gr + 1) HO.out (by omega) (by omega) HM7.out (by rw [hgs]; exact HBB.out) (by first | (simp [stepF, h1, h2]; done) | (simp [stepF, h1, h2]; intros; omega))

set_option maxRecDepth 100000 in
set_option maxHeartbeats 2000000 in
theorem stepL_a3 (s : St) (i : In) (w : World) (hs : s.good) (hi : i.fits) (hn : None0 w) (h1 : ¬ i.round < 0) (h2 : ¬ 1048576 < i.round) (h3 : s.step = 4) :
    Calls Tryd.prog 10 #[.agg s.cells.toArray, .agg i.cells.toArray] w (StepTold w (stepF s i)) := by
  have hg0 : 0 < w.heap.size := hn.size
  have hzs := zero_state
  have hz := zeros_len
  have hzl : (bts zeros).length = 32 := by rw [bts_len, zeros_len]
  have hbl : (bts i.block).length = 32 := by rw [bts_len, hi.block]
  have hib := hi.block
  have hcl := In.cells_len hi
  have hsl := St.cells_len hs
  go_enter Tryd.func10, Tryd.ntmps10
  go_upto_region 1 with fail
  have HA0 := Lib.hid (show At (((w.alloc (.cells s.cells.toArray 25)).alloc (.cells i.cells.toArray 27)).alloc (.cells St.zero.cells.toArray 25)) w.heap.size (w.heap.size + 1) s i from ⟨((Bk.new w 25 s.cells.toArray).alloc _).alloc _, by have := (Bk.new (w.alloc (.cells s.cells.toArray 25)) 27 i.cells.toArray).alloc (.cells St.zero.cells.toArray 25); simpa using this, World.rangeAt_alloc (World.rangeAt_alloc (World.rangeAt_alloc hn _) _) _⟩)
  have HR0 := Lib.hid (show Bk (((w.alloc (.cells s.cells.toArray 25)).alloc (.cells i.cells.toArray 27)).alloc (.cells St.zero.cells.toArray 25)) (w.heap.size + 1 + 1) 25 St.zero.cells.toArray from by have := Bk.new ((w.alloc (.cells s.cells.toArray 25)).alloc (.cells i.cells.toArray 27)) 25 St.zero.cells.toArray; simpa using this)
  have HB0 := Lib.hid (show Below w.heap.size w (((w.alloc (.cells s.cells.toArray 25)).alloc (.cells i.cells.toArray 27)).alloc (.cells St.zero.cells.toArray 25)) from (by (first | assumption | (repeat (first | exact Below.refl _ _ | assumption | apply Below.drew | apply below_drewN | (refine Below.setCell ?_ (by (try simp) <;> omega) _) | (refine Below.alloc ?_ (by (try simp) <;> omega) _))))))
  obtain ⟨w0, hw0⟩ : ∃ w0, ((w.alloc (.cells s.cells.toArray 25)).alloc (.cells i.cells.toArray 27)).alloc (.cells St.zero.cells.toArray 25) = w0 := ⟨_, rfl⟩
  have hsz : w0.heap.size = w.heap.size + 1 + 1 + 1 := by rw [← hw0]; simp
  obtain ⟨gs, hgs⟩ : ∃ gs, w.heap.size = gs := ⟨_, rfl⟩
  rw [hw0] at HA0 HR0 HB0 ⊢
  rw [hgs] at HA0 HR0 HB0 hsz hg0 ⊢
  obtain ⟨gi, hgi⟩ : ∃ gi, gs + 1 = gi := ⟨_, rfl⟩
  rw [hgi] at HA0 HR0 hsz ⊢
  obtain ⟨gr, hgr⟩ : ∃ gr, gi + 1 = gr := ⟨_, rfl⟩
  rw [hgr] at HR0 hsz ⊢
  have HNN : Hid (None0 w0) := Lib.hid HA0.out.N
  clear hw0 hzs hn
  obtain ⟨c0, c1, c2, c34, c35, c67, c68, c100, c101⟩ := st_out HA0.out.S hs
  obtain ⟨d0, d1, d2, d34, d35, d36⟩ := in_out HA0.out.I hi
  have dd := HA0.out.whole
  have hN := HA0.out.N
  have el : decide (i.round < 0) = false := by simpa using h1
  have em : decide (1048576 < i.round) = false := by simpa using h2
  have e4 : (s.step == 4) = true := by simpa using h3
  have hsr := HA0.out.S.all
  have hlr := hsl
  have HRR := Lib.hid HR0.out
  have HBB := Lib.hid HB0.out
  have HO := Lib.hid (show OutAt w0 (gr + 1) (.slice none 0 0) none from rfl)
  go_wp2_with (first | (refine wpList_val (by rfl) (run_load_seg 25 _ (by with_reducible rfl) gs 0 (by rfl) _ (by assumption) 102 (by assumption) _ Tryd.underlying25 (by rfl) hi_state) ?_) | (refine wpList_puts (by rfl) 25 _ _ (by with_reducible rfl) gr 0 (by rfl) (St.cells s) (by rfl) 25 St.zero.cells (by exact HRR.out) 102 (by assumption) (by rw [St.cells_len St.zero_good]; omega) hi_state St.one_cells ?_; intro w7 hb7 hm7 hz7; rw [put_all (by rw [St.cells_len St.zero_good]; assumption)] at hb7; have HB7 := Lib.hid hb7; have HM7 := Lib.hid hm7; clear hb7 hm7))
  refine bodyPost_ret (step_results (s := s) (hs) HB7.out (by rfl) (by rfl)) rfl ?_
  exact step_end (N := gr + 1) HO.out (by omega) (by omega) HM7.out (by rw [hgs]; exact HBB.out) (by first | (simp [stepF, h1, h2, h3]; done) | (simp [stepF, h1, h2, h3]; intros; omega))

set_option maxRecDepth 100000 in
set_option maxHeartbeats 2000000 in
theorem stepL_b (s : St) (i : In) (w : World) (hs : s.good) (hi : i.fits) (hn : None0 w) (h1 : ¬ i.round < 0) (h2 : ¬ 1048576 < i.round) (h3 : ¬ s.step = 4) (k1 : i.kind = 1) (hlt : s.round < i.round) :
    Calls Tryd.prog 10 #[.agg s.cells.toArray, .agg i.cells.toArray] w (StepTold w (stepF s i)) := by
  have hg0 : 0 < w.heap.size := hn.size
  have hzs := zero_state
  have hz := zeros_len
  have hzl : (bts zeros).length = 32 := by rw [bts_len, zeros_len]
  have hbl : (bts i.block).length = 32 := by rw [bts_len, hi.block]
  have hib := hi.block
  have hcl := In.cells_len hi
  have hsl := St.cells_len hs
  go_enter Tryd.func10, Tryd.ntmps10
  go_upto_region 1 with fail
  have HA0 := Lib.hid (show At (((w.alloc (.cells s.cells.toArray 25)).alloc (.cells i.cells.toArray 27)).alloc (.cells St.zero.cells.toArray 25)) w.heap.size (w.heap.size + 1) s i from ⟨((Bk.new w 25 s.cells.toArray).alloc _).alloc _, by have := (Bk.new (w.alloc (.cells s.cells.toArray 25)) 27 i.cells.toArray).alloc (.cells St.zero.cells.toArray 25); simpa using this, World.rangeAt_alloc (World.rangeAt_alloc (World.rangeAt_alloc hn _) _) _⟩)
  have HR0 := Lib.hid (show Bk (((w.alloc (.cells s.cells.toArray 25)).alloc (.cells i.cells.toArray 27)).alloc (.cells St.zero.cells.toArray 25)) (w.heap.size + 1 + 1) 25 St.zero.cells.toArray from by have := Bk.new ((w.alloc (.cells s.cells.toArray 25)).alloc (.cells i.cells.toArray 27)) 25 St.zero.cells.toArray; simpa using this)
  have HB0 := Lib.hid (show Below w.heap.size w (((w.alloc (.cells s.cells.toArray 25)).alloc (.cells i.cells.toArray 27)).alloc (.cells St.zero.cells.toArray 25)) from (by (first | assumption | (repeat (first | exact Below.refl _ _ | assumption | apply Below.drew | apply below_drewN | (refine Below.setCell ?_ (by (try simp) <;> omega) _) | (refine Below.alloc ?_ (by (try simp) <;> omega) _))))))
  obtain ⟨w0, hw0⟩ : ∃ w0, ((w.alloc (.cells s.cells.toArray 25)).alloc (.cells i.cells.toArray 27)).alloc (.cells St.zero.cells.toArray 25) = w0 := ⟨_, rfl⟩
  have hsz : w0.heap.size = w.heap.size + 1 + 1 + 1 := by rw [← hw0]; simp
  obtain ⟨gs, hgs⟩ : ∃ gs, w.heap.size = gs := ⟨_, rfl⟩
  rw [hw0] at HA0 HR0 HB0 ⊢
  rw [hgs] at HA0 HR0 HB0 hsz hg0 ⊢
  obtain ⟨gi, hgi⟩ : ∃ gi, gs + 1 = gi := ⟨_, rfl⟩
  rw [hgi] at HA0 HR0 hsz ⊢
  obtain ⟨gr, hgr⟩ : ∃ gr, gi + 1 = gr := ⟨_, rfl⟩
  rw [hgr] at HR0 hsz ⊢
  have HNN : Hid (None0 w0) := Lib.hid HA0.out.N
  clear hw0 hzs hn
  obtain ⟨c0, c1, c2, c34, c35, c67, c68, c100, c101⟩ := st_out HA0.out.S hs
  obtain ⟨d0, d1, d2, d34, d35, d36⟩ := in_out HA0.out.I hi
  have dd := HA0.out.whole
  have hN := HA0.out.N
  have el : decide (i.round < 0) = false := by simpa using h1
  have em : decide (1048576 < i.round) = false := by simpa using h2
  have e4 : (s.step == 4) = false := by simpa using h3
  have elt : decide (s.round < i.round) = true := by simpa using hlt
  go_wp2_with (refine wpList_val (by rfl) (run_load_seg 27 _ (by with_reducible rfl) gi 0 (by rfl) _ (by assumption) 68 (by assumption) _ Tryd.underlying27 (by rfl) hi_input) ?_)
  with_reducible refine (begin_any gs s i w0 hs hi HA0.out.S HNN.out hg0).mono ?_
  rintro e w9 ⟨v, rfl, hT2, hT3, hT4⟩
  have hR9 := hT4.bk HR0.out (by omega)
  have hB9 : Below gs w w9 := HB0.out.trans (hT4.to_below (by omega) (fun k _ e => by omega))
  clear c0 c1 c2 c34 c35 c67 c68 c100 c101 d0 d1 d2 d34 d35 d36 dd hN
  have hsr := hT2.all
  have hlr := (St.cells_len (s := {s with round := i.round, step := 1}) (⟨hs.locked, hs.valid, hs.block⟩))
  have HRR := Lib.hid hR9
  have HBB := Lib.hid hB9
  have HO := Lib.hid hT3
  go_wp2_with (first | (refine wpList_val (by rfl) (run_load_seg 25 _ (by with_reducible rfl) gs 0 (by rfl) _ (by assumption) 102 (by assumption) _ Tryd.underlying25 (by rfl) hi_state) ?_) | (refine wpList_puts (by rfl) 25 _ _ (by with_reducible rfl) gr 0 (by rfl) (St.cells {s with round := i.round, step := 1}) (by rfl) 25 St.zero.cells (by exact HRR.out) 102 (by assumption) (by rw [St.cells_len St.zero_good]; omega) hi_state St.one_cells ?_; intro w7 hb7 hm7 hz7; rw [put_all (by rw [St.cells_len St.zero_good]; assumption)] at hb7; have HB7 := Lib.hid hb7; have HM7 := Lib.hid hm7; clear hb7 hm7))
  refine bodyPost_ret (step_results (s := {s with round := i.round, step := 1}) (⟨hs.locked, hs.valid, hs.block⟩) HB7.out (by rfl) (by rfl)) rfl ?_
  exact step_end (N := w0.heap.size) HO.out (by omega) (by omega) HM7.out (by rw [hgs]; exact HBB.out) (by first | (simp [stepF, h1, h2, h3, k1, hlt]; done) | (simp [stepF, h1, h2, h3, k1, hlt]; intros; omega))

set_option maxRecDepth 100000 in
set_option maxHeartbeats 2000000 in
theorem stepL_c (s : St) (i : In) (w : World) (hs : s.good) (hi : i.fits) (hn : None0 w) (h1 : ¬ i.round < 0) (h2 : ¬ 1048576 < i.round) (h3 : ¬ s.step = 4) (k9 : i.kind = 9) (hlt : s.round < i.round) :
    Calls Tryd.prog 10 #[.agg s.cells.toArray, .agg i.cells.toArray] w (StepTold w (stepF s i)) := by
  have hg0 : 0 < w.heap.size := hn.size
  have hzs := zero_state
  have hz := zeros_len
  have hzl : (bts zeros).length = 32 := by rw [bts_len, zeros_len]
  have hbl : (bts i.block).length = 32 := by rw [bts_len, hi.block]
  have hib := hi.block
  have hcl := In.cells_len hi
  have hsl := St.cells_len hs
  go_enter Tryd.func10, Tryd.ntmps10
  go_upto_region 1 with fail
  have HA0 := Lib.hid (show At (((w.alloc (.cells s.cells.toArray 25)).alloc (.cells i.cells.toArray 27)).alloc (.cells St.zero.cells.toArray 25)) w.heap.size (w.heap.size + 1) s i from ⟨((Bk.new w 25 s.cells.toArray).alloc _).alloc _, by have := (Bk.new (w.alloc (.cells s.cells.toArray 25)) 27 i.cells.toArray).alloc (.cells St.zero.cells.toArray 25); simpa using this, World.rangeAt_alloc (World.rangeAt_alloc (World.rangeAt_alloc hn _) _) _⟩)
  have HR0 := Lib.hid (show Bk (((w.alloc (.cells s.cells.toArray 25)).alloc (.cells i.cells.toArray 27)).alloc (.cells St.zero.cells.toArray 25)) (w.heap.size + 1 + 1) 25 St.zero.cells.toArray from by have := Bk.new ((w.alloc (.cells s.cells.toArray 25)).alloc (.cells i.cells.toArray 27)) 25 St.zero.cells.toArray; simpa using this)
  have HB0 := Lib.hid (show Below w.heap.size w (((w.alloc (.cells s.cells.toArray 25)).alloc (.cells i.cells.toArray 27)).alloc (.cells St.zero.cells.toArray 25)) from (by (first | assumption | (repeat (first | exact Below.refl _ _ | assumption | apply Below.drew | apply below_drewN | (refine Below.setCell ?_ (by (try simp) <;> omega) _) | (refine Below.alloc ?_ (by (try simp) <;> omega) _))))))
  obtain ⟨w0, hw0⟩ : ∃ w0, ((w.alloc (.cells s.cells.toArray 25)).alloc (.cells i.cells.toArray 27)).alloc (.cells St.zero.cells.toArray 25) = w0 := ⟨_, rfl⟩
  have hsz : w0.heap.size = w.heap.size + 1 + 1 + 1 := by rw [← hw0]; simp
  obtain ⟨gs, hgs⟩ : ∃ gs, w.heap.size = gs := ⟨_, rfl⟩
  rw [hw0] at HA0 HR0 HB0 ⊢
  rw [hgs] at HA0 HR0 HB0 hsz hg0 ⊢
  obtain ⟨gi, hgi⟩ : ∃ gi, gs + 1 = gi := ⟨_, rfl⟩
  rw [hgi] at HA0 HR0 hsz ⊢
  obtain ⟨gr, hgr⟩ : ∃ gr, gi + 1 = gr := ⟨_, rfl⟩
  rw [hgr] at HR0 hsz ⊢
  have HNN : Hid (None0 w0) := Lib.hid HA0.out.N
  clear hw0 hzs hn
  obtain ⟨c0, c1, c2, c34, c35, c67, c68, c100, c101⟩ := st_out HA0.out.S hs
  obtain ⟨d0, d1, d2, d34, d35, d36⟩ := in_out HA0.out.I hi
  have dd := HA0.out.whole
  have hN := HA0.out.N
  have el : decide (i.round < 0) = false := by simpa using h1
  have em : decide (1048576 < i.round) = false := by simpa using h2
  have e4 : (s.step == 4) = false := by simpa using h3
  have elt : decide (s.round < i.round) = true := by simpa using hlt
  go_wp2_with (refine wpList_val (by rfl) (run_load_seg 23 _ (by with_reducible rfl) 0 0 (by rfl) _ (by assumption) 32 (by assumption) _ hu_hash (by rfl) hi_hash) ?_)
  with_reducible refine (say_at 7 i.round 0 zeros zeros_len _).mono ?_
  rintro e w9 ⟨u, rfl, ho, hb3⟩
  have hR9 := HR0.out.below hb3 (by omega)
  have hS9 := HA0.out.S.below hb3 (by omega)
  have hB9 : Below gs w w9 := HB0.out.trans (hb3.mono (by omega))
  clear c0 c1 c2 c34 c35 c67 c68 c100 c101 d0 d1 d2 d34 d35 d36 dd hN
  have hsr := hS9.all
  have hlr := hsl
  have HRR := Lib.hid hR9
  have HBB := Lib.hid hB9
  have HO := Lib.hid ho
  go_wp2_with (first | (refine wpList_val (by rfl) (run_load_seg 25 _ (by with_reducible rfl) gs 0 (by rfl) _ (by assumption) 102 (by assumption) _ Tryd.underlying25 (by rfl) hi_state) ?_) | (refine wpList_puts (by rfl) 25 _ _ (by with_reducible rfl) gr 0 (by rfl) (St.cells s) (by rfl) 25 St.zero.cells (by exact HRR.out) 102 (by assumption) (by rw [St.cells_len St.zero_good]; omega) hi_state St.one_cells ?_; intro w7 hb7 hm7 hz7; rw [put_all (by rw [St.cells_len St.zero_good]; assumption)] at hb7; have HB7 := Lib.hid hb7; have HM7 := Lib.hid hm7; clear hb7 hm7))
  refine bodyPost_ret (step_results (s := s) (hs) HB7.out (by rfl) (by rfl)) rfl ?_
  exact step_end (N := w0.heap.size) HO.out (by omega) (by omega) HM7.out (by rw [hgs]; exact HBB.out) (by first | (simp [stepF, h1, h2, h3, k9, hlt]; done) | (simp [stepF, h1, h2, h3, k9, hlt]; intros; omega))

set_option maxRecDepth 100000 in
set_option maxHeartbeats 2000000 in
theorem stepL_d (s : St) (i : In) (w : World) (hs : s.good) (hi : i.fits) (hn : None0 w) (h1 : ¬ i.round < 0) (h2 : ¬ 1048576 < i.round) (h3 : ¬ s.step = 4) (k8 : i.kind = 8) (hg : i.good = true) (hbz : ¬ i.block = zeros) :
    Calls Tryd.prog 10 #[.agg s.cells.toArray, .agg i.cells.toArray] w (StepTold w (stepF s i)) := by
  have hg0 : 0 < w.heap.size := hn.size
  have hzs := zero_state
  have hz := zeros_len
  have hzl : (bts zeros).length = 32 := by rw [bts_len, zeros_len]
  have hbl : (bts i.block).length = 32 := by rw [bts_len, hi.block]
  have hib := hi.block
  have hcl := In.cells_len hi
  have hsl := St.cells_len hs
  go_enter Tryd.func10, Tryd.ntmps10
  go_upto_region 1 with fail
  have HA0 := Lib.hid (show At (((w.alloc (.cells s.cells.toArray 25)).alloc (.cells i.cells.toArray 27)).alloc (.cells St.zero.cells.toArray 25)) w.heap.size (w.heap.size + 1) s i from ⟨((Bk.new w 25 s.cells.toArray).alloc _).alloc _, by have := (Bk.new (w.alloc (.cells s.cells.toArray 25)) 27 i.cells.toArray).alloc (.cells St.zero.cells.toArray 25); simpa using this, World.rangeAt_alloc (World.rangeAt_alloc (World.rangeAt_alloc hn _) _) _⟩)
  have HR0 := Lib.hid (show Bk (((w.alloc (.cells s.cells.toArray 25)).alloc (.cells i.cells.toArray 27)).alloc (.cells St.zero.cells.toArray 25)) (w.heap.size + 1 + 1) 25 St.zero.cells.toArray from by have := Bk.new ((w.alloc (.cells s.cells.toArray 25)).alloc (.cells i.cells.toArray 27)) 25 St.zero.cells.toArray; simpa using this)
  have HB0 := Lib.hid (show Below w.heap.size w (((w.alloc (.cells s.cells.toArray 25)).alloc (.cells i.cells.toArray 27)).alloc (.cells St.zero.cells.toArray 25)) from (by (first | assumption | (repeat (first | exact Below.refl _ _ | assumption | apply Below.drew | apply below_drewN | (refine Below.setCell ?_ (by (try simp) <;> omega) _) | (refine Below.alloc ?_ (by (try simp) <;> omega) _))))))
  obtain ⟨w0, hw0⟩ : ∃ w0, ((w.alloc (.cells s.cells.toArray 25)).alloc (.cells i.cells.toArray 27)).alloc (.cells St.zero.cells.toArray 25) = w0 := ⟨_, rfl⟩
  have hsz : w0.heap.size = w.heap.size + 1 + 1 + 1 := by rw [← hw0]; simp
  obtain ⟨gs, hgs⟩ : ∃ gs, w.heap.size = gs := ⟨_, rfl⟩
  rw [hw0] at HA0 HR0 HB0 ⊢
  rw [hgs] at HA0 HR0 HB0 hsz hg0 ⊢
  obtain ⟨gi, hgi⟩ : ∃ gi, gs + 1 = gi := ⟨_, rfl⟩
  rw [hgi] at HA0 HR0 hsz ⊢
  obtain ⟨gr, hgr⟩ : ∃ gr, gi + 1 = gr := ⟨_, rfl⟩
  rw [hgr] at HR0 hsz ⊢
  have HNN : Hid (None0 w0) := Lib.hid HA0.out.N
  clear hw0 hzs hn
  obtain ⟨c0, c1, c2, c34, c35, c67, c68, c100, c101⟩ := st_out HA0.out.S hs
  obtain ⟨d0, d1, d2, d34, d35, d36⟩ := in_out HA0.out.I hi
  have dd := HA0.out.whole
  have hN := HA0.out.N
  have el : decide (i.round < 0) = false := by simpa using h1
  have em : decide (1048576 < i.round) = false := by simpa using h2
  have e4 : (s.step == 4) = false := by simpa using h3
  have eb : (!(i.block == zeros)) = true := by simpa using hbz
  go_upto_region 9 with (first | (refine wpList_val (by rfl) (run_load_seg 23 _ (by with_reducible rfl) 0 0 (by rfl) _ (by assumption) 32 (by assumption) _ hu_hash (by rfl) hi_hash) ?_) | (refine wpList_val (by rfl) (run_load_seg 23 _ (by with_reducible rfl) _ _ (by rfl) _ (by assumption) 32 (by assumption) _ hu_hash (by rfl) hi_hash) ?_) | (refine wpList_val (by rfl) (run_bytes_neq 23 5 _ _ _ (by with_reducible rfl) 32 hu_hash Tryd.underlying5 hs_u8 hm_hash _ _ (by rfl) (by rfl) (by assumption) (by assumption)) ?_))
  go_upto_region 10 with (first | (refine wpList_val (by rfl) (run_load_seg 23 _ (by with_reducible rfl) _ _ (by rfl) _ (by assumption) 32 (by assumption) _ hu_hash (by rfl) hi_hash) ?_) | (refine wpList_puts (by rfl) 23 _ _ (by with_reducible rfl) gs 68 (by rfl) (bts i.block) (by rfl) 25 s.cells (by exact HA0.out.S) 32 hbl (by rw [hsl]; omega) hi_hash bts_all ?_; intro w1 hb1 hm1 hz1; rw [put_block hs hi.block] at hb1; have HS1 := Lib.hid hb1; have HM1 := Lib.hid hm1; have f1 := hb1.frozen 1; have cc1 := (st_out hb1 ⟨hs.locked, hs.valid, hi.block⟩).2.1; clear hb1 hm1))
  have hS2 := set_step (s := {s with block := i.block}) HS1.out 4
  have hm2 := HM1.out.trans_ (Moves.setCell (X := fun k _ => k = gs) w1 ⟨gs, 1, none⟩ (.int .i64 4) (fun _ _ => rfl)) (fun _ _ _ h => h)
  obtain ⟨w2, hw2⟩ : ∃ w2, w1.setCell ⟨gs, 1, none⟩ (.int .i64 4) = w2 := ⟨_, rfl⟩
  rw [hw2] at hS2 hm2 ⊢
  clear hw2 f1 cc1 HS1 HM1 hz1
  clear c0 c1 c2 c34 c35 c67 c68 c100 c101 d0 d1 d2 d34 d35 d36 dd hN
  have hI2 := hm2.bk HA0.out.I (by omega)
  have hR2 := hm2.bk HR0.out (by omega)
  have hB2 : Below gs w w2 := HB0.out.trans (hm2.to_below (by omega) (fun k _ e => by omega))
  have hz2 := hm2.size
  have HI2 := Lib.hid hI2
  have HR2 := Lib.hid hR2
  have HB2 := Lib.hid hB2
  have HS2 := Lib.hid hS2
  clear hI2 hR2 hB2 hS2 hm2
  obtain ⟨d0, d1, d2, d34, d35, d36⟩ := in_out HI2.out hi
  go_wp2_with (refine wpList_val (by rfl) (run_load_seg 23 _ (by with_reducible rfl) _ _ (by rfl) _ (by assumption) 32 (by assumption) _ hu_hash (by rfl) hi_hash) ?_)
  with_reducible refine (say_at 8 i.round 0 i.block hi.block _).mono ?_
  rintro e w9 ⟨u, rfl, ho, hb3⟩
  have hR9 := HR2.out.below hb3 (by omega)
  have hS9 := HS2.out.below hb3 (by omega)
  have hB9 : Below gs w w9 := HB2.out.trans (hb3.mono (by omega))
  clear d0 d1 d2 d34 d35 d36
  have hsr := hS9.all
  have hlr := (St.cells_len (s := {s with block := i.block, step := 4}) ⟨hs.locked, hs.valid, hi.block⟩)
  have HRR := Lib.hid hR9
  have HBB := Lib.hid hB9
  have HO := Lib.hid ho
  go_wp2_with (first | (refine wpList_val (by rfl) (run_load_seg 25 _ (by with_reducible rfl) gs 0 (by rfl) _ (by assumption) 102 (by assumption) _ Tryd.underlying25 (by rfl) hi_state) ?_) | (refine wpList_puts (by rfl) 25 _ _ (by with_reducible rfl) gr 0 (by rfl) (St.cells {s with block := i.block, step := 4}) (by rfl) 25 St.zero.cells (by exact HRR.out) 102 (by assumption) (by rw [St.cells_len St.zero_good]; omega) hi_state St.one_cells ?_; intro w7 hb7 hm7 hz7; rw [put_all (by rw [St.cells_len St.zero_good]; assumption)] at hb7; have HB7 := Lib.hid hb7; have HM7 := Lib.hid hm7; clear hb7 hm7))
  refine bodyPost_ret (step_results (s := {s with block := i.block, step := 4}) (⟨hs.locked, hs.valid, hi.block⟩) HB7.out (by rfl) (by rfl)) rfl ?_
  exact step_end (N := w2.heap.size) HO.out (by omega) (by omega) HM7.out (by rw [hgs]; exact HBB.out) (by first | (simp [stepF, h1, h2, h3, k8, hg, hbz]; done) | (simp [stepF, h1, h2, h3, k8, hg, hbz]; intros; omega))
end Go.Proofs.YtlhnhdkbfkbafaaDoor

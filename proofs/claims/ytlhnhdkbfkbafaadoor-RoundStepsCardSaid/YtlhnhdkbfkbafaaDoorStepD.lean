/- What this text proves: parts of the contract of a height's step. The conditions are that hashes have 32 bytes, and that the package's empty hash is empty. -/
import Derived.Test.YtlhnhdkbfkbafaaDoorRoundStep
namespace Go.Proofs.YtlhnhdkbfkbafaaDoor
open Go.RowKit
set_option linter.unusedVariables false
set_option linter.unusedSimpArgs false

set_option maxRecDepth 100000 in
set_option maxHeartbeats 2000000 in
theorem stepL_e8z (s : St) (i : In) (w : World) (hs : s.good) (hi : i.fits) (hn : None0 w) (h1 : ¬ i.round < 0) (h2 : ¬ 1048576 < i.round) (h3 : ¬ s.step = 4) (k8 : i.kind = 8) (hg : i.good = true) (hbz : i.block = zeros) (hr : i.round = s.round) :
    Calls Tryd.prog 10 #[.agg s.cells.toArray, .agg i.cells.toArray] w (StepTold w (stepF s i)) := by
  have hg0 : 0 < w.heap.size := hn.size
  have hzs := zero_state
  have hz := zeros_len
  have hzl : (bts zeros).length = 32 := by rw [bts_len, zeros_len]
  have hbl : (bts i.block).length = 32 := by rw [bts_len, hi.block]
  have hib := hi.block
  have hcl := In.cells_len hi
  have hsl := St.cells_len hs
  go_enter Tryd.func10, Tryd.ntmps10
  go_upto_region 1 with fail
  have HA0 := Lib.hid (show At (((w.alloc (.cells s.cells.toArray 25)).alloc (.cells i.cells.toArray 27)).alloc (.cells St.zero.cells.toArray 25)) w.heap.size (w.heap.size + 1) s i from ⟨((Bk.new w 25 s.cells.toArray).alloc _).alloc _, by have := (Bk.new (w.alloc (.cells s.cells.toArray 25)) 27 i.cells.toArray).alloc (.cells St.zero.cells.toArray 25); simpa using this, World.rangeAt_alloc (World.rangeAt_alloc (World.rangeAt_alloc hn _) _) _⟩)
  have HR0 := Lib.hid (show Bk (((w.alloc (.cells s.cells.toArray 25)).alloc (.cells i.cells.toArray 27)).alloc (.cells St.zero.cells.toArray 25)) (w.heap.size + 1 + 1) 25 St.zero.cells.toArray from by have := Bk.new ((w.alloc (.cells s.cells.toArray 25)).alloc (.cells i.cells.toArray 27)) 25 St.zero.cells.toArray; simpa using this)
  have HB0 := Lib.hid (show Below w.heap.size w (((w.alloc (.cells s.cells.toArray 25)).alloc (.cells i.cells.toArray 27)).alloc (.cells St.zero.cells.toArray 25)) from (by (first | assumption | (repeat (first | exact Below.refl _ _ | assumption | apply Below.drew | apply below_drewN | (refine Below.setCell ?_ (by (try simp) <;> omega) _) | (refine Below.alloc ?_ (by (try simp) <;> omega) _))))))
  obtain ⟨w0, hw0⟩ : ∃ w0, ((w.alloc (.cells s.cells.toArray 25)).alloc (.cells i.cells.toArray 27)).alloc (.cells St.zero.cells.toArray 25) = w0 := ⟨_, rfl⟩
  have hsz : w0.heap.size = w.heap.size + 1 + 1 + 1 := by rw [← hw0]; simp
  obtain ⟨gs, hgs⟩ : ∃ gs, w.heap.size = gs := ⟨_, rfl⟩
  rw [hw0] at HA0 HR0 HB0 ⊢
  rw [hgs] at HA0 HR0 HB0 hsz hg0 ⊢
  obtain ⟨gi, hgi⟩ : ∃ gi, gs + 1 = gi := ⟨_, rfl⟩
  rw [hgi] at HA0 HR0 hsz ⊢
  obtain ⟨gr, hgr⟩ : ∃ gr, gi + 1 = gr := ⟨_, rfl⟩
  rw [hgr] at HR0 hsz ⊢
  have HNN : Hid (None0 w0) := Lib.hid HA0.out.N
  clear hw0 hzs hn
  obtain ⟨c0, c1, c2, c34, c35, c67, c68, c100, c101⟩ := st_out HA0.out.S hs
  obtain ⟨d0, d1, d2, d34, d35, d36⟩ := in_out HA0.out.I hi
  have dd := HA0.out.whole
  have hN := HA0.out.N
  have el : decide (i.round < 0) = false := by simpa using h1
  have em : decide (1048576 < i.round) = false := by simpa using h2
  have e4 : (s.step == 4) = false := by simpa using h3
  have eb : (!(i.block == zeros)) = false := by simp [hbz]
  have hrr : 0 ≤ i.round ∧ i.round ≤ 1048576 := ⟨by omega, by omega⟩
  have er : (s.round == s.round) = true := by simp
  go_upto_region 12 with (first | (refine wpList_val (by rfl) (run_load_seg 23 _ (by with_reducible rfl) 0 0 (by rfl) _ (by assumption) 32 (by assumption) _ hu_hash (by rfl) hi_hash) ?_) | (refine wpList_val (by rfl) (run_load_seg 23 _ (by with_reducible rfl) _ _ (by rfl) _ (by assumption) 32 (by assumption) _ hu_hash (by rfl) hi_hash) ?_) | (refine wpList_val (by rfl) (run_bytes_neq 23 5 _ _ _ (by with_reducible rfl) 32 hu_hash Tryd.underlying5 hs_u8 hm_hash _ _ (by rfl) (by rfl) (by assumption) (by assumption)) ?_))
  go_wp2_with (refine wpList_val (by rfl) (run_load_seg 27 _ (by with_reducible rfl) gi 0 (by rfl) _ (by assumption) 68 (by assumption) _ Tryd.underlying27 (by rfl) hi_input) ?_)
  with_reducible refine (now_any gs s i w0 hs hi HA0.out.S HNN.out hg0 hrr).mono ?_
  rintro e w9 ⟨v, rfl, hT2, hT3, hT4⟩
  have hR9 := hT4.bk HR0.out (by omega)
  have hB9 : Below gs w w9 := HB0.out.trans (hT4.to_below (by omega) (fun k _ e => by omega))
  clear c0 c1 c2 c34 c35 c67 c68 c100 c101 d0 d1 d2 d34 d35 d36 dd hN
  have hsr := hT2.all
  have hlr := (St.cells_len (s := (nowF s i).1) (nowF_good hs hi))
  have HRR := Lib.hid hR9
  have HBB := Lib.hid hB9
  have HO := Lib.hid hT3
  go_wp2_with (first | (refine wpList_val (by rfl) (run_load_seg 25 _ (by with_reducible rfl) gs 0 (by rfl) _ (by assumption) 102 (by assumption) _ Tryd.underlying25 (by rfl) hi_state) ?_) | (refine wpList_puts (by rfl) 25 _ _ (by with_reducible rfl) gr 0 (by rfl) (St.cells (nowF s i).1) (by rfl) 25 St.zero.cells (by exact HRR.out) 102 (by assumption) (by rw [St.cells_len St.zero_good]; omega) hi_state St.one_cells ?_; intro w7 hb7 hm7 hz7; rw [put_all (by rw [St.cells_len St.zero_good]; assumption)] at hb7; have HB7 := Lib.hid hb7; have HM7 := Lib.hid hm7; clear hb7 hm7))
  refine bodyPost_ret (step_results (s := (nowF s i).1) (nowF_good hs hi) HB7.out (by rfl) (by rfl)) rfl ?_
  exact step_end (N := w0.heap.size) HO.out (by omega) (by omega) HM7.out (by rw [hgs]; exact HBB.out) (by first | (simp [stepF, h1, h2, h3, k8, hg, hbz, hr]; done) | (simp [stepF, h1, h2, h3, k8, hg, hbz, hr]; intros; omega))

set_option maxRecDepth 100000 in
set_option maxHeartbeats 2000000 in
theorem stepL_f8z (s : St) (i : In) (w : World) (hs : s.good) (hi : i.fits) (hn : None0 w) (h1 : ¬ i.round < 0) (h2 : ¬ 1048576 < i.round) (h3 : ¬ s.step = 4) (k8 : i.kind = 8) (hg : i.good = true) (hbz : i.block = zeros) (hr : ¬ i.round = s.round) :
    Calls Tryd.prog 10 #[.agg s.cells.toArray, .agg i.cells.toArray] w (StepTold w (stepF s i)) := by
  have hg0 : 0 < w.heap.size := hn.size
  have hzs := zero_state
  have hz := zeros_len
  have hzl : (bts zeros).length = 32 := by rw [bts_len, zeros_len]
  have hbl : (bts i.block).length = 32 := by rw [bts_len, hi.block]
  have hib := hi.block
  have hcl := In.cells_len hi
  have hsl := St.cells_len hs
  go_enter Tryd.func10, Tryd.ntmps10
  go_upto_region 1 with fail
  have HA0 := Lib.hid (show At (((w.alloc (.cells s.cells.toArray 25)).alloc (.cells i.cells.toArray 27)).alloc (.cells St.zero.cells.toArray 25)) w.heap.size (w.heap.size + 1) s i from ⟨((Bk.new w 25 s.cells.toArray).alloc _).alloc _, by have := (Bk.new (w.alloc (.cells s.cells.toArray 25)) 27 i.cells.toArray).alloc (.cells St.zero.cells.toArray 25); simpa using this, World.rangeAt_alloc (World.rangeAt_alloc (World.rangeAt_alloc hn _) _) _⟩)
  have HR0 := Lib.hid (show Bk (((w.alloc (.cells s.cells.toArray 25)).alloc (.cells i.cells.toArray 27)).alloc (.cells St.zero.cells.toArray 25)) (w.heap.size + 1 + 1) 25 St.zero.cells.toArray from by have := Bk.new ((w.alloc (.cells s.cells.toArray 25)).alloc (.cells i.cells.toArray 27)) 25 St.zero.cells.toArray; simpa using this)
  have HB0 := Lib.hid (show Below w.heap.size w (((w.alloc (.cells s.cells.toArray 25)).alloc (.cells i.cells.toArray 27)).alloc (.cells St.zero.cells.toArray 25)) from (by (first | assumption | (repeat (first | exact Below.refl _ _ | assumption | apply Below.drew | apply below_drewN | (refine Below.setCell ?_ (by (try simp) <;> omega) _) | (refine Below.alloc ?_ (by (try simp) <;> omega) _))))))
  obtain ⟨w0, hw0⟩ : ∃ w0, ((w.alloc (.cells s.cells.toArray 25)).alloc (.cells i.cells.toArray 27)).alloc (.cells St.zero.cells.toArray 25) = w0 := ⟨_, rfl⟩
  have hsz : w0.heap.size = w.heap.size + 1 + 1 + 1 := by rw [← hw0]; simp
  obtain ⟨gs, hgs⟩ : ∃ gs, w.heap.size = gs := ⟨_, rfl⟩
  rw [hw0] at HA0 HR0 HB0 ⊢
  rw [hgs] at HA0 HR0 HB0 hsz hg0 ⊢
  obtain ⟨gi, hgi⟩ : ∃ gi, gs + 1 = gi := ⟨_, rfl⟩
  rw [hgi] at HA0 HR0 hsz ⊢
  obtain ⟨gr, hgr⟩ : ∃ gr, gi + 1 = gr := ⟨_, rfl⟩
  rw [hgr] at HR0 hsz ⊢
  have HNN : Hid (None0 w0) := Lib.hid HA0.out.N
  clear hw0 hzs hn
  obtain ⟨c0, c1, c2, c34, c35, c67, c68, c100, c101⟩ := st_out HA0.out.S hs
  obtain ⟨d0, d1, d2, d34, d35, d36⟩ := in_out HA0.out.I hi
  have dd := HA0.out.whole
  have hN := HA0.out.N
  have el : decide (i.round < 0) = false := by simpa using h1
  have em : decide (1048576 < i.round) = false := by simpa using h2
  have e4 : (s.step == 4) = false := by simpa using h3
  have eb : (!(i.block == zeros)) = false := by simp [hbz]
  have er : (i.round == s.round) = false := by simpa using hr
  go_upto_region 13 with (first | (refine wpList_val (by rfl) (run_load_seg 23 _ (by with_reducible rfl) 0 0 (by rfl) _ (by assumption) 32 (by assumption) _ hu_hash (by rfl) hi_hash) ?_) | (refine wpList_val (by rfl) (run_load_seg 23 _ (by with_reducible rfl) _ _ (by rfl) _ (by assumption) 32 (by assumption) _ hu_hash (by rfl) hi_hash) ?_) | (refine wpList_val (by rfl) (run_bytes_neq 23 5 _ _ _ (by with_reducible rfl) 32 hu_hash Tryd.underlying5 hs_u8 hm_hash _ _ (by rfl) (by rfl) (by assumption) (by assumption)) ?_))
  have hsr := HA0.out.S.all
  have hlr := hsl
  have HRR := Lib.hid HR0.out
  have HBB := Lib.hid HB0.out
  have HO := Lib.hid (show OutAt w0 (gr + 1) (.slice none 0 0) none from rfl)
  go_wp2_with (first | (refine wpList_val (by rfl) (run_load_seg 25 _ (by with_reducible rfl) gs 0 (by rfl) _ (by assumption) 102 (by assumption) _ Tryd.underlying25 (by rfl) hi_state) ?_) | (refine wpList_puts (by rfl) 25 _ _ (by with_reducible rfl) gr 0 (by rfl) (St.cells s) (by rfl) 25 St.zero.cells (by exact HRR.out) 102 (by assumption) (by rw [St.cells_len St.zero_good]; omega) hi_state St.one_cells ?_; intro w7 hb7 hm7 hz7; rw [put_all (by rw [St.cells_len St.zero_good]; assumption)] at hb7; have HB7 := Lib.hid hb7; have HM7 := Lib.hid hm7; clear hb7 hm7))
  refine bodyPost_ret (step_results (s := s) (hs) HB7.out (by rfl) (by rfl)) rfl ?_
  exact step_end (N := gr + 1) HO.out (by omega) (by omega) HM7.out (by rw [hgs]; exact HBB.out) (by first | (simp [stepF, h1, h2, h3, k8, hg, hbz, hr]; done) | (simp [stepF, h1, h2, h3, k8, hg, hbz, hr]; intros; omega))

set_option maxRecDepth 100000 in
set_option maxHeartbeats 2000000 in
theorem stepL_eo (s : St) (i : In) (w : World) (hs : s.good) (hi : i.fits) (hn : None0 w) (h1 : ¬ i.round < 0) (h2 : ¬ 1048576 < i.round) (h3 : ¬ s.step = 4) (n1 : ¬ i.kind = 1) (n9 : ¬ i.kind = 9) (n8 : ¬ i.kind = 8) (hr : i.round = s.round) :
    Calls Tryd.prog 10 #[.agg s.cells.toArray, .agg i.cells.toArray] w (StepTold w (stepF s i)) := by
  have hg0 : 0 < w.heap.size := hn.size
  have hzs := zero_state
  have hz := zeros_len
  have hzl : (bts zeros).length = 32 := by rw [bts_len, zeros_len]
  have hbl : (bts i.block).length = 32 := by rw [bts_len, hi.block]
  have hib := hi.block
  have hcl := In.cells_len hi
  have hsl := St.cells_len hs
  go_enter Tryd.func10, Tryd.ntmps10
  go_upto_region 1 with fail
  have HA0 := Lib.hid (show At (((w.alloc (.cells s.cells.toArray 25)).alloc (.cells i.cells.toArray 27)).alloc (.cells St.zero.cells.toArray 25)) w.heap.size (w.heap.size + 1) s i from ⟨((Bk.new w 25 s.cells.toArray).alloc _).alloc _, by have := (Bk.new (w.alloc (.cells s.cells.toArray 25)) 27 i.cells.toArray).alloc (.cells St.zero.cells.toArray 25); simpa using this, World.rangeAt_alloc (World.rangeAt_alloc (World.rangeAt_alloc hn _) _) _⟩)
  have HR0 := Lib.hid (show Bk (((w.alloc (.cells s.cells.toArray 25)).alloc (.cells i.cells.toArray 27)).alloc (.cells St.zero.cells.toArray 25)) (w.heap.size + 1 + 1) 25 St.zero.cells.toArray from by have := Bk.new ((w.alloc (.cells s.cells.toArray 25)).alloc (.cells i.cells.toArray 27)) 25 St.zero.cells.toArray; simpa using this)
  have HB0 := Lib.hid (show Below w.heap.size w (((w.alloc (.cells s.cells.toArray 25)).alloc (.cells i.cells.toArray 27)).alloc (.cells St.zero.cells.toArray 25)) from (by (first | assumption | (repeat (first | exact Below.refl _ _ | assumption | apply Below.drew | apply below_drewN | (refine Below.setCell ?_ (by (try simp) <;> omega) _) | (refine Below.alloc ?_ (by (try simp) <;> omega) _))))))
  obtain ⟨w0, hw0⟩ : ∃ w0, ((w.alloc (.cells s.cells.toArray 25)).alloc (.cells i.cells.toArray 27)).alloc (.cells St.zero.cells.toArray 25) = w0 := ⟨_, rfl⟩
  have hsz : w0.heap.size = w.heap.size + 1 + 1 + 1 := by rw [← hw0]; simp
  obtain ⟨gs, hgs⟩ : ∃ gs, w.heap.size = gs := ⟨_, rfl⟩
  rw [hw0] at HA0 HR0 HB0 ⊢
  rw [hgs] at HA0 HR0 HB0 hsz hg0 ⊢
  obtain ⟨gi, hgi⟩ : ∃ gi, gs + 1 = gi := ⟨_, rfl⟩
  rw [hgi] at HA0 HR0 hsz ⊢
  obtain ⟨gr, hgr⟩ : ∃ gr, gi + 1 = gr := ⟨_, rfl⟩
  rw [hgr] at HR0 hsz ⊢
  have HNN : Hid (None0 w0) := Lib.hid HA0.out.N
  clear hw0 hzs hn
  obtain ⟨c0, c1, c2, c34, c35, c67, c68, c100, c101⟩ := st_out HA0.out.S hs
  obtain ⟨d0, d1, d2, d34, d35, d36⟩ := in_out HA0.out.I hi
  have dd := HA0.out.whole
  have hN := HA0.out.N
  have el : decide (i.round < 0) = false := by simpa using h1
  have em : decide (1048576 < i.round) = false := by simpa using h2
  have e4 : (s.step == 4) = false := by simpa using h3
  have en1 : (i.kind == 1) = false := by simpa using n1
  have en9 : (i.kind == 9) = false := by simpa using n9
  have en8 : (i.kind == 8) = false := by simpa using n8
  have hrr : 0 ≤ i.round ∧ i.round ≤ 1048576 := ⟨by omega, by omega⟩
  have er : (s.round == s.round) = true := by simp
  go_upto_region 12 with (first | (refine wpList_val (by rfl) (run_load_seg 23 _ (by with_reducible rfl) 0 0 (by rfl) _ (by assumption) 32 (by assumption) _ hu_hash (by rfl) hi_hash) ?_) | (refine wpList_val (by rfl) (run_load_seg 23 _ (by with_reducible rfl) _ _ (by rfl) _ (by assumption) 32 (by assumption) _ hu_hash (by rfl) hi_hash) ?_) | (refine wpList_val (by rfl) (run_bytes_neq 23 5 _ _ _ (by with_reducible rfl) 32 hu_hash Tryd.underlying5 hs_u8 hm_hash _ _ (by rfl) (by rfl) (by assumption) (by assumption)) ?_))
  go_wp2_with (refine wpList_val (by rfl) (run_load_seg 27 _ (by with_reducible rfl) gi 0 (by rfl) _ (by assumption) 68 (by assumption) _ Tryd.underlying27 (by rfl) hi_input) ?_)
  with_reducible refine (now_any gs s i w0 hs hi HA0.out.S HNN.out hg0 hrr).mono ?_
  rintro e w9 ⟨v, rfl, hT2, hT3, hT4⟩
  have hR9 := hT4.bk HR0.out (by omega)
  have hB9 : Below gs w w9 := HB0.out.trans (hT4.to_below (by omega) (fun k _ e => by omega))
  clear c0 c1 c2 c34 c35 c67 c68 c100 c101 d0 d1 d2 d34 d35 d36 dd hN
  have hsr := hT2.all
  have hlr := (St.cells_len (s := (nowF s i).1) (nowF_good hs hi))
  have HRR := Lib.hid hR9
  have HBB := Lib.hid hB9
  have HO := Lib.hid hT3
  go_wp2_with (first | (refine wpList_val (by rfl) (run_load_seg 25 _ (by with_reducible rfl) gs 0 (by rfl) _ (by assumption) 102 (by assumption) _ Tryd.underlying25 (by rfl) hi_state) ?_) | (refine wpList_puts (by rfl) 25 _ _ (by with_reducible rfl) gr 0 (by rfl) (St.cells (nowF s i).1) (by rfl) 25 St.zero.cells (by exact HRR.out) 102 (by assumption) (by rw [St.cells_len St.zero_good]; omega) hi_state St.one_cells ?_; intro w7 hb7 hm7 hz7; rw [put_all (by rw [St.cells_len St.zero_good]; assumption)] at hb7; have HB7 := Lib.hid hb7; have HM7 := Lib.hid hm7; clear hb7 hm7))
  refine bodyPost_ret (step_results (s := (nowF s i).1) (nowF_good hs hi) HB7.out (by rfl) (by rfl)) rfl ?_
  exact step_end (N := w0.heap.size) HO.out (by omega) (by omega) HM7.out (by rw [hgs]; exact HBB.out) (by first | (simp [stepF, h1, h2, h3, n1, n9, n8, hr]; done) | (simp [stepF, h1, h2, h3, n1, n9, n8, hr]; intros; omega))

set_option maxRecDepth 100000 in
set_option maxHeartbeats 2000000 in
theorem stepL_fo (s : St) (i : In) (w : World) (hs : s.good) (hi : i.fits) (hn : None0 w) (h1 : ¬ i.round < 0) (h2 : ¬ 1048576 < i.round) (h3 : ¬ s.step = 4) (n1 : ¬ i.kind = 1) (n9 : ¬ i.kind = 9) (n8 : ¬ i.kind = 8) (hr : ¬ i.round = s.round) :
    Calls Tryd.prog 10 #[.agg s.cells.toArray, .agg i.cells.toArray] w (StepTold w (stepF s i)) := by
  have hg0 : 0 < w.heap.size := hn.size
  have hzs := zero_state
  have hz := zeros_len
  have hzl : (bts zeros).length = 32 := by rw [bts_len, zeros_len]
  have hbl : (bts i.block).length = 32 := by rw [bts_len, hi.block]
  have hib := hi.block
  have hcl := In.cells_len hi
  have hsl := St.cells_len hs
  go_enter Tryd.func10, Tryd.ntmps10
  go_upto_region 1 with fail
  have HA0 := Lib.hid (show At (((w.alloc (.cells s.cells.toArray 25)).alloc (.cells i.cells.toArray 27)).alloc (.cells St.zero.cells.toArray 25)) w.heap.size (w.heap.size + 1) s i from ⟨((Bk.new w 25 s.cells.toArray).alloc _).alloc _, by have := (Bk.new (w.alloc (.cells s.cells.toArray 25)) 27 i.cells.toArray).alloc (.cells St.zero.cells.toArray 25); simpa using this, World.rangeAt_alloc (World.rangeAt_alloc (World.rangeAt_alloc hn _) _) _⟩)
  have HR0 := Lib.hid (show Bk (((w.alloc (.cells s.cells.toArray 25)).alloc (.cells i.cells.toArray 27)).alloc (.cells St.zero.cells.toArray 25)) (w.heap.size + 1 + 1) 25 St.zero.cells.toArray from by have := Bk.new ((w.alloc (.cells s.cells.toArray 25)).alloc (.cells i.cells.toArray 27)) 25 St.zero.cells.toArray; simpa using this)
  have HB0 := Lib.hid (show Below w.heap.size w (((w.alloc (.cells s.cells.toArray 25)).alloc (.cells i.cells.toArray 27)).alloc (.cells St.zero.cells.toArray 25)) from (by (first | assumption | (repeat (first | exact Below.refl _ _ | assumption | apply Below.drew | apply below_drewN | (refine Below.setCell ?_ (by (try simp) <;> omega) _) | (refine Below.alloc ?_ (by (try simp) <;> omega) _))))))
  obtain ⟨w0, hw0⟩ : ∃ w0, ((w.alloc (.cells s.cells.toArray 25)).alloc (.cells i.cells.toArray 27)).alloc (.cells St.zero.cells.toArray 25) = w0 := ⟨_, rfl⟩
  have hsz : w0.heap.size = w.heap.size + 1 + 1 + 1 := by rw [← hw0]; simp
  obtain ⟨gs, hgs⟩ : ∃ gs, w.heap.size = gs := ⟨_, rfl⟩
  rw [hw0] at HA0 HR0 HB0 ⊢
  rw [hgs] at HA0 HR0 HB0 hsz hg0 ⊢
  obtain ⟨gi, hgi⟩ : ∃ gi, gs + 1 = gi := ⟨_, rfl⟩
  rw [hgi] at HA0 HR0 hsz ⊢
  obtain ⟨gr, hgr⟩ : ∃ gr, gi + 1 = gr := ⟨_, rfl⟩
  rw [hgr] at HR0 hsz ⊢
  have HNN : Hid (None0 w0) := Lib.hid HA0.out.N
  clear hw0 hzs hn
  obtain ⟨c0, c1, c2, c34, c35, c67, c68, c100, c101⟩ := st_out HA0.out.S hs
  obtain ⟨d0, d1, d2, d34, d35, d36⟩ := in_out HA0.out.I hi
  have dd := HA0.out.whole
  have hN := HA0.out.N
  have el : decide (i.round < 0) = false := by simpa using h1
  have em : decide (1048576 < i.round) = false := by simpa using h2
  have e4 : (s.step == 4) = false := by simpa using h3
  have en1 : (i.kind == 1) = false := by simpa using n1
  have en9 : (i.kind == 9) = false := by simpa using n9
  have en8 : (i.kind == 8) = false := by simpa using n8
  have er : (i.round == s.round) = false := by simpa using hr
  go_upto_region 13 with (first | (refine wpList_val (by rfl) (run_load_seg 23 _ (by with_reducible rfl) 0 0 (by rfl) _ (by assumption) 32 (by assumption) _ hu_hash (by rfl) hi_hash) ?_) | (refine wpList_val (by rfl) (run_load_seg 23 _ (by with_reducible rfl) _ _ (by rfl) _ (by assumption) 32 (by assumption) _ hu_hash (by rfl) hi_hash) ?_) | (refine wpList_val (by rfl) (run_bytes_neq 23 5 _ _ _ (by with_reducible rfl) 32 hu_hash Tryd.underlying5 hs_u8 hm_hash _ _ (by rfl) (by rfl) (by assumption) (by assumption)) ?_))
  have hsr := HA0.out.S.all
  have hlr := hsl
  have HRR := Lib.hid HR0.out
  have HBB := Lib.hid HB0.out
  have HO := Lib.hid (show OutAt w0 (gr + 1) (.slice none 0 0) none from rfl)
  go_wp2_with (first | (refine wpList_val (by rfl) (run_load_seg 25 _ (by with_reducible rfl) gs 0 (by rfl) _ (by assumption) 102 (by assumption) _ Tryd.underlying25 (by rfl) hi_state) ?_) | (refine wpList_puts (by rfl) 25 _ _ (by with_reducible rfl) gr 0 (by rfl) (St.cells s) (by rfl) 25 St.zero.cells (by exact HRR.out) 102 (by assumption) (by rw [St.cells_len St.zero_good]; omega) hi_state St.one_cells ?_; intro w7 hb7 hm7 hz7; rw [put_all (by rw [St.cells_len St.zero_good]; assumption)] at hb7; have HB7 := Lib.hid hb7; have HM7 := Lib.hid hm7; clear hb7 hm7))
  refine bodyPost_ret (step_results (s := s) (hs) HB7.out (by rfl) (by rfl)) rfl ?_
  exact step_end (N := gr + 1) HO.out (by omega) (by omega) HM7.out (by rw [hgs]; exact HBB.out) (by first | (simp [stepF, h1, h2, h3, n1, n9, n8, hr]; done) | (simp [stepF, h1, h2, h3, n1, n9, n8, hr]; intros; omega))
end Go.Proofs.YtlhnhdkbfkbafaaDoor

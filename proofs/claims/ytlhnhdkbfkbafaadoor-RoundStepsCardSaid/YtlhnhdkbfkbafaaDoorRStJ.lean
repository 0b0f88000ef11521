/- What this text proves: parts of the contract of the reference's step of a height. The conditions are that hashes have 32 bytes. -/
import Derived.Test.YtlhnhdkbfkbafaaDoorRefBase
namespace Go.Proofs.YtlhnhdkbfkbafaaDoor
open Go.RowKit
set_option linter.unusedVariables false
set_option linter.unusedSimpArgs false

set_option maxRecDepth 100000 in
set_option maxHeartbeats 4000000 in
theorem rstepL_d12a (s : St) (i : In) (w : World) (hs : s.good) (hi : i.fits) (h1 : ¬ i.round < 0) (h2 : ¬ 1048576 < i.round) (h3 : ¬ s.step = 4) (k12 : i.kind = 12) (hr : i.round = s.round) (g0 : ¬ (1 ≤ s.step)) :
    Calls Tryd.prog 11 #[.agg s.cells.toArray, .agg i.cells.toArray] w (RTold w (stepF s i)) := by
  have Kh1 := Lib.hid h1
  have Kh2 := Lib.hid h2
  have Kh3 := Lib.hid h3
  have Kk12 := Lib.hid k12
  have Khr := Lib.hid hr
  have Kg0 := Lib.hid g0
  clear h1 h2 h3 k12 hr g0
  have hzs := zero_rstate
  have hz := zeros_len
  have hzl : (bts zeros).length = 32 := by rw [bts_len, zeros_len]
  have hbl : (bts i.block).length = 32 := by rw [bts_len, hi.block]
  have hol : (bts i.own).length = 32 := by rw [bts_len, hi.own]
  have hll : (bts s.locked).length = 32 := by rw [bts_len, hs.locked]
  have hvl : (bts s.valid).length = 32 := by rw [bts_len, hs.valid]
  have hib := hi.block
  have hio := hi.own
  have hsk := hs.locked
  have hcl := In.cells_len hi
  have hsl := St.cells_len hs
  go_enter Tryd.func11, Tryd.ntmps11
  go_upto_region 1 with fail
  have HS0 := Lib.hid (show Bk (((w.alloc (.cells s.cells.toArray 31)).alloc (.cells i.cells.toArray 36)).alloc (.cells St.zero.cells.toArray 31)) w.heap.size 31 s.cells.toArray from ((Bk.new w 31 s.cells.toArray).alloc _).alloc _)
  have HI0 := Lib.hid (show Bk (((w.alloc (.cells s.cells.toArray 31)).alloc (.cells i.cells.toArray 36)).alloc (.cells St.zero.cells.toArray 31)) (w.heap.size + 1) 36 i.cells.toArray from by have := (Bk.new (w.alloc (.cells s.cells.toArray 31)) 36 i.cells.toArray).alloc (.cells St.zero.cells.toArray 31); simpa using this)
  have HR0 := Lib.hid (show Bk (((w.alloc (.cells s.cells.toArray 31)).alloc (.cells i.cells.toArray 36)).alloc (.cells St.zero.cells.toArray 31)) (w.heap.size + 1 + 1) 31 St.zero.cells.toArray from by have := Bk.new ((w.alloc (.cells s.cells.toArray 31)).alloc (.cells i.cells.toArray 36)) 31 St.zero.cells.toArray; simpa using this)
  have HB0 := Lib.hid (show Below w.heap.size w (((w.alloc (.cells s.cells.toArray 31)).alloc (.cells i.cells.toArray 36)).alloc (.cells St.zero.cells.toArray 31)) from (by (first | assumption | (repeat (first | exact Below.refl _ _ | assumption | apply Below.drew | apply below_drewN | (refine Below.setCell ?_ (by (try simp) <;> omega) _) | (refine Below.alloc ?_ (by (try simp) <;> omega) _))))))
  obtain ⟨v0, hv0⟩ : ∃ v0, ((w.alloc (.cells s.cells.toArray 31)).alloc (.cells i.cells.toArray 36)).alloc (.cells St.zero.cells.toArray 31) = v0 := ⟨_, rfl⟩
  have hsz : v0.heap.size = w.heap.size + 1 + 1 + 1 := by rw [← hv0]; simp
  obtain ⟨gs, hgs⟩ : ∃ gs, w.heap.size = gs := ⟨_, rfl⟩
  rw [hv0] at HS0 HI0 HR0 HB0 ⊢
  rw [hgs] at HS0 HI0 HR0 HB0 hsz ⊢
  obtain ⟨gi, hgi⟩ : ∃ gi, gs + 1 = gi := ⟨_, rfl⟩
  rw [hgi] at HI0 HR0 hsz ⊢
  obtain ⟨gr, hgr⟩ : ∃ gr, gi + 1 = gr := ⟨_, rfl⟩
  rw [hgr] at HR0 hsz ⊢
  clear hv0 hzs
  obtain ⟨d0, d1, d2, d34, d35, d36⟩ := in_out HI0.out hi
  go_wp2_with (refine wpList_val (by rfl) (run_load_seg 23 _ (by with_reducible rfl) _ _ (by rfl) _ (by assumption) 32 (by assumption) _ hu_hash (by rfl) hi_hash) ?_)
  with_reducible refine (rempty_any i.block hi.block _).mono ?_
  rintro e v1 ⟨rfl, hb1⟩
  have HS1 := Lib.hid (HS0.out.below hb1 HS0.out.lt)
  have HI1 := Lib.hid (HI0.out.below hb1 HI0.out.lt)
  have HR1 := Lib.hid (HR0.out.below hb1 HR0.out.lt)
  have HB1 := Lib.hid (HB0.out.trans (hb1.mono (by omega)))
  have hz1 := hb1.size
  clear hb1 HS0 HI0 HR0 HB0 d0 d1 d2 d34 d35 d36
  obtain ⟨d0, d1, d2, d34, d35, d36⟩ := in_out HI1.out hi
  go_wp2_with (refine wpList_val (by rfl) (run_load_seg 23 _ (by with_reducible rfl) _ _ (by rfl) _ (by assumption) 32 (by assumption) _ hu_hash (by rfl) hi_hash) ?_)
  with_reducible refine (rempty_any i.own hi.own _).mono ?_
  rintro e w0 ⟨rfl, hb1⟩
  have HS0 := Lib.hid (HS1.out.below hb1 HS1.out.lt)
  have HI0 := Lib.hid (HI1.out.below hb1 HI1.out.lt)
  have HR0 := Lib.hid (HR1.out.below hb1 HR1.out.lt)
  have HB0 : Hid (Below gs w w0) := Lib.hid (HB1.out.trans (hb1.mono (by omega)))
  have hz0 : v0.heap.size ≤ w0.heap.size := Nat.le_trans hz1 hb1.size
  clear hb1 HS1 HI1 HR1 HB1 d0 d1 d2 d34 d35 d36 hz1
  cases hg : i.good with
  | true =>
    obtain ⟨c0, c1, c2, c34, c35, c67, c68, c100, c101⟩ := st_out HS0.out hs
    obtain ⟨d0, d1, d2, d34, d35, d36⟩ := in_out HI0.out hi
    rw [hg] at d35
    have h1 := Kh1.out
    have h2 := Kh2.out
    have h3 := Kh3.out
    have k12 := Kk12.out
    have hr := Khr.out
    have g0 := Kg0.out
    have el : decide (i.round < 0) = false := by simpa using h1
    have em : decide (1048576 < i.round) = false := by simpa using h2
    have e4 : (s.step == 4) = false := by simpa using h3
    have en1 : (i.kind == 1) = false := by simp [k12]
    have en2 : (i.kind == 2) = false := by simp [k12]
    have en3 : (i.kind == 3) = false := by simp [k12]
    have en4 : (i.kind == 4) = false := by simp [k12]
    have en5 : (i.kind == 5) = false := by simp [k12]
    have en6 : (i.kind == 6) = false := by simp [k12]
    have en7 : (i.kind == 7) = false := by simp [k12]
    have en8 : (i.kind == 8) = false := by simp [k12]
    have en9 : (i.kind == 9) = false := by simp [k12]
    have en10 : (i.kind == 10) = false := by simp [k12]
    have en11 : (i.kind == 11) = false := by simp [k12]
    have en12 : (i.kind == 12) = true := by simp [k12]
    have er : (i.round == s.round) = true := by simp [hr]
    have f0 : decide (1 ≤ s.step) = false := by simpa using g0
    clear h1 h2 h3 k12 hr g0
    have hsr := HS0.out.all
    have hlr := St.cells_len (s := s) (hs)
    have HRR := HR0
    have HBB := HB0
    have HO := Lib.hid (show ROutAt w0 (gr + 1) (.slice none 0 0) none from rfl)
    go_wp2_with (first | (refine wpList_val (by rfl) (run_load_seg 31 _ (by with_reducible rfl) gs 0 (by rfl) _ (by assumption) 102 (by assumption) _ Tryd.underlying31 (by rfl) hi_rstate) ?_) | (refine wpList_puts (by rfl) 31 _ _ (by with_reducible rfl) gr 0 (by rfl) (St.cells s) (by rfl) 31 St.zero.cells (by exact HRR.out) 102 (by assumption) (by rw [St.cells_len St.zero_good]; omega) hi_rstate St.one_cells ?_; intro w7 hb7 hm7 hz7; rw [put_all (by rw [St.cells_len St.zero_good]; assumption)] at hb7; have HB7 := Lib.hid hb7; have HM7 := Lib.hid hm7; clear hb7 hm7))
    have h1 := Kh1.out
    have h2 := Kh2.out
    have h3 := Kh3.out
    have k12 := Kk12.out
    have hr := Khr.out
    have g0 := Kg0.out
    refine bodyPost_ret (rstep_results (s := s) (hs) HB7.out (by rfl) (by rfl)) rfl ?_
    exact rstep_end (N := gr + 1) HO.out (by omega) (by omega) HM7.out (by rw [hgs]; exact HBB.out) (by first | (simp [stepF, nowF, lockF, lateF, prevF, precF, agreedF, beginOut, h1, h2, h3, k12, hr, g0]; done) | (simp [stepF, nowF, lockF, lateF, prevF, precF, agreedF, beginOut, h1, h2, h3, k12, hr, g0]; omega) | (simp [stepF, nowF, lockF, lateF, prevF, precF, agreedF, beginOut, h1, h2, h3, k12, hr, g0]; intros; omega))
  | false =>
    obtain ⟨c0, c1, c2, c34, c35, c67, c68, c100, c101⟩ := st_out HS0.out hs
    obtain ⟨d0, d1, d2, d34, d35, d36⟩ := in_out HI0.out hi
    rw [hg] at d35
    have h1 := Kh1.out
    have h2 := Kh2.out
    have h3 := Kh3.out
    have k12 := Kk12.out
    have hr := Khr.out
    have g0 := Kg0.out
    have el : decide (i.round < 0) = false := by simpa using h1
    have em : decide (1048576 < i.round) = false := by simpa using h2
    have e4 : (s.step == 4) = false := by simpa using h3
    have en1 : (i.kind == 1) = false := by simp [k12]
    have en2 : (i.kind == 2) = false := by simp [k12]
    have en3 : (i.kind == 3) = false := by simp [k12]
    have en4 : (i.kind == 4) = false := by simp [k12]
    have en5 : (i.kind == 5) = false := by simp [k12]
    have en6 : (i.kind == 6) = false := by simp [k12]
    have en7 : (i.kind == 7) = false := by simp [k12]
    have en8 : (i.kind == 8) = false := by simp [k12]
    have en9 : (i.kind == 9) = false := by simp [k12]
    have en10 : (i.kind == 10) = false := by simp [k12]
    have en11 : (i.kind == 11) = false := by simp [k12]
    have en12 : (i.kind == 12) = true := by simp [k12]
    have er : (i.round == s.round) = true := by simp [hr]
    have f0 : decide (1 ≤ s.step) = false := by simpa using g0
    clear h1 h2 h3 k12 hr g0
    have hsr := HS0.out.all
    have hlr := St.cells_len (s := s) (hs)
    have HRR := HR0
    have HBB := HB0
    have HO := Lib.hid (show ROutAt w0 (gr + 1) (.slice none 0 0) none from rfl)
    go_wp2_with (first | (refine wpList_val (by rfl) (run_load_seg 31 _ (by with_reducible rfl) gs 0 (by rfl) _ (by assumption) 102 (by assumption) _ Tryd.underlying31 (by rfl) hi_rstate) ?_) | (refine wpList_puts (by rfl) 31 _ _ (by with_reducible rfl) gr 0 (by rfl) (St.cells s) (by rfl) 31 St.zero.cells (by exact HRR.out) 102 (by assumption) (by rw [St.cells_len St.zero_good]; omega) hi_rstate St.one_cells ?_; intro w7 hb7 hm7 hz7; rw [put_all (by rw [St.cells_len St.zero_good]; assumption)] at hb7; have HB7 := Lib.hid hb7; have HM7 := Lib.hid hm7; clear hb7 hm7))
    have h1 := Kh1.out
    have h2 := Kh2.out
    have h3 := Kh3.out
    have k12 := Kk12.out
    have hr := Khr.out
    have g0 := Kg0.out
    refine bodyPost_ret (rstep_results (s := s) (hs) HB7.out (by rfl) (by rfl)) rfl ?_
    exact rstep_end (N := gr + 1) HO.out (by omega) (by omega) HM7.out (by rw [hgs]; exact HBB.out) (by first | (simp [stepF, nowF, lockF, lateF, prevF, precF, agreedF, beginOut, h1, h2, h3, k12, hr, g0]; done) | (simp [stepF, nowF, lockF, lateF, prevF, precF, agreedF, beginOut, h1, h2, h3, k12, hr, g0]; omega) | (simp [stepF, nowF, lockF, lateF, prevF, precF, agreedF, beginOut, h1, h2, h3, k12, hr, g0]; intros; omega))

set_option maxRecDepth 100000 in
set_option maxHeartbeats 4000000 in
theorem rstepL_d12b (s : St) (i : In) (w : World) (hs : s.good) (hi : i.fits) (h1 : ¬ i.round < 0) (h2 : ¬ 1048576 < i.round) (h3 : ¬ s.step = 4) (k12 : i.kind = 12) (hr : i.round = s.round) (g0 : 1 ≤ s.step) (g1 : ¬ (s.step ≤ 3)) :
    Calls Tryd.prog 11 #[.agg s.cells.toArray, .agg i.cells.toArray] w (RTold w (stepF s i)) := by
  have Kh1 := Lib.hid h1
  have Kh2 := Lib.hid h2
  have Kh3 := Lib.hid h3
  have Kk12 := Lib.hid k12
  have Khr := Lib.hid hr
  have Kg0 := Lib.hid g0
  have Kg1 := Lib.hid g1
  clear h1 h2 h3 k12 hr g0 g1
  have hzs := zero_rstate
  have hz := zeros_len
  have hzl : (bts zeros).length = 32 := by rw [bts_len, zeros_len]
  have hbl : (bts i.block).length = 32 := by rw [bts_len, hi.block]
  have hol : (bts i.own).length = 32 := by rw [bts_len, hi.own]
  have hll : (bts s.locked).length = 32 := by rw [bts_len, hs.locked]
  have hvl : (bts s.valid).length = 32 := by rw [bts_len, hs.valid]
  have hib := hi.block
  have hio := hi.own
  have hsk := hs.locked
  have hcl := In.cells_len hi
  have hsl := St.cells_len hs
  go_enter Tryd.func11, Tryd.ntmps11
  go_upto_region 1 with fail
  have HS0 := Lib.hid (show Bk (((w.alloc (.cells s.cells.toArray 31)).alloc (.cells i.cells.toArray 36)).alloc (.cells St.zero.cells.toArray 31)) w.heap.size 31 s.cells.toArray from ((Bk.new w 31 s.cells.toArray).alloc _).alloc _)
  have HI0 := Lib.hid (show Bk (((w.alloc (.cells s.cells.toArray 31)).alloc (.cells i.cells.toArray 36)).alloc (.cells St.zero.cells.toArray 31)) (w.heap.size + 1) 36 i.cells.toArray from by have := (Bk.new (w.alloc (.cells s.cells.toArray 31)) 36 i.cells.toArray).alloc (.cells St.zero.cells.toArray 31); simpa using this)
  have HR0 := Lib.hid (show Bk (((w.alloc (.cells s.cells.toArray 31)).alloc (.cells i.cells.toArray 36)).alloc (.cells St.zero.cells.toArray 31)) (w.heap.size + 1 + 1) 31 St.zero.cells.toArray from by have := Bk.new ((w.alloc (.cells s.cells.toArray 31)).alloc (.cells i.cells.toArray 36)) 31 St.zero.cells.toArray; simpa using this)
  have HB0 := Lib.hid (show Below w.heap.size w (((w.alloc (.cells s.cells.toArray 31)).alloc (.cells i.cells.toArray 36)).alloc (.cells St.zero.cells.toArray 31)) from (by (first | assumption | (repeat (first | exact Below.refl _ _ | assumption | apply Below.drew | apply below_drewN | (refine Below.setCell ?_ (by (try simp) <;> omega) _) | (refine Below.alloc ?_ (by (try simp) <;> omega) _))))))
  obtain ⟨v0, hv0⟩ : ∃ v0, ((w.alloc (.cells s.cells.toArray 31)).alloc (.cells i.cells.toArray 36)).alloc (.cells St.zero.cells.toArray 31) = v0 := ⟨_, rfl⟩
  have hsz : v0.heap.size = w.heap.size + 1 + 1 + 1 := by rw [← hv0]; simp
  obtain ⟨gs, hgs⟩ : ∃ gs, w.heap.size = gs := ⟨_, rfl⟩
  rw [hv0] at HS0 HI0 HR0 HB0 ⊢
  rw [hgs] at HS0 HI0 HR0 HB0 hsz ⊢
  obtain ⟨gi, hgi⟩ : ∃ gi, gs + 1 = gi := ⟨_, rfl⟩
  rw [hgi] at HI0 HR0 hsz ⊢
  obtain ⟨gr, hgr⟩ : ∃ gr, gi + 1 = gr := ⟨_, rfl⟩
  rw [hgr] at HR0 hsz ⊢
  clear hv0 hzs
  obtain ⟨d0, d1, d2, d34, d35, d36⟩ := in_out HI0.out hi
  go_wp2_with (refine wpList_val (by rfl) (run_load_seg 23 _ (by with_reducible rfl) _ _ (by rfl) _ (by assumption) 32 (by assumption) _ hu_hash (by rfl) hi_hash) ?_)
  with_reducible refine (rempty_any i.block hi.block _).mono ?_
  rintro e v1 ⟨rfl, hb1⟩
  have HS1 := Lib.hid (HS0.out.below hb1 HS0.out.lt)
  have HI1 := Lib.hid (HI0.out.below hb1 HI0.out.lt)
  have HR1 := Lib.hid (HR0.out.below hb1 HR0.out.lt)
  have HB1 := Lib.hid (HB0.out.trans (hb1.mono (by omega)))
  have hz1 := hb1.size
  clear hb1 HS0 HI0 HR0 HB0 d0 d1 d2 d34 d35 d36
  obtain ⟨d0, d1, d2, d34, d35, d36⟩ := in_out HI1.out hi
  go_wp2_with (refine wpList_val (by rfl) (run_load_seg 23 _ (by with_reducible rfl) _ _ (by rfl) _ (by assumption) 32 (by assumption) _ hu_hash (by rfl) hi_hash) ?_)
  with_reducible refine (rempty_any i.own hi.own _).mono ?_
  rintro e w0 ⟨rfl, hb1⟩
  have HS0 := Lib.hid (HS1.out.below hb1 HS1.out.lt)
  have HI0 := Lib.hid (HI1.out.below hb1 HI1.out.lt)
  have HR0 := Lib.hid (HR1.out.below hb1 HR1.out.lt)
  have HB0 : Hid (Below gs w w0) := Lib.hid (HB1.out.trans (hb1.mono (by omega)))
  have hz0 : v0.heap.size ≤ w0.heap.size := Nat.le_trans hz1 hb1.size
  clear hb1 HS1 HI1 HR1 HB1 d0 d1 d2 d34 d35 d36 hz1
  cases hg : i.good with
  | true =>
    obtain ⟨c0, c1, c2, c34, c35, c67, c68, c100, c101⟩ := st_out HS0.out hs
    obtain ⟨d0, d1, d2, d34, d35, d36⟩ := in_out HI0.out hi
    rw [hg] at d35
    have h1 := Kh1.out
    have h2 := Kh2.out
    have h3 := Kh3.out
    have k12 := Kk12.out
    have hr := Khr.out
    have g0 := Kg0.out
    have g1 := Kg1.out
    have el : decide (i.round < 0) = false := by simpa using h1
    have em : decide (1048576 < i.round) = false := by simpa using h2
    have e4 : (s.step == 4) = false := by simpa using h3
    have en1 : (i.kind == 1) = false := by simp [k12]
    have en2 : (i.kind == 2) = false := by simp [k12]
    have en3 : (i.kind == 3) = false := by simp [k12]
    have en4 : (i.kind == 4) = false := by simp [k12]
    have en5 : (i.kind == 5) = false := by simp [k12]
    have en6 : (i.kind == 6) = false := by simp [k12]
    have en7 : (i.kind == 7) = false := by simp [k12]
    have en8 : (i.kind == 8) = false := by simp [k12]
    have en9 : (i.kind == 9) = false := by simp [k12]
    have en10 : (i.kind == 10) = false := by simp [k12]
    have en11 : (i.kind == 11) = false := by simp [k12]
    have en12 : (i.kind == 12) = true := by simp [k12]
    have er : (i.round == s.round) = true := by simp [hr]
    have f0 : decide (1 ≤ s.step) = true := by simpa using g0
    have f1 : decide (s.step ≤ 3) = false := by simpa using g1
    clear h1 h2 h3 k12 hr g0 g1
    have hsr := HS0.out.all
    have hlr := St.cells_len (s := s) (hs)
    have HRR := HR0
    have HBB := HB0
    have HO := Lib.hid (show ROutAt w0 (gr + 1) (.slice none 0 0) none from rfl)
    go_wp2_with (first | (refine wpList_val (by rfl) (run_load_seg 31 _ (by with_reducible rfl) gs 0 (by rfl) _ (by assumption) 102 (by assumption) _ Tryd.underlying31 (by rfl) hi_rstate) ?_) | (refine wpList_puts (by rfl) 31 _ _ (by with_reducible rfl) gr 0 (by rfl) (St.cells s) (by rfl) 31 St.zero.cells (by exact HRR.out) 102 (by assumption) (by rw [St.cells_len St.zero_good]; omega) hi_rstate St.one_cells ?_; intro w7 hb7 hm7 hz7; rw [put_all (by rw [St.cells_len St.zero_good]; assumption)] at hb7; have HB7 := Lib.hid hb7; have HM7 := Lib.hid hm7; clear hb7 hm7))
    have h1 := Kh1.out
    have h2 := Kh2.out
    have h3 := Kh3.out
    have k12 := Kk12.out
    have hr := Khr.out
    have g0 := Kg0.out
    have g1 := Kg1.out
    refine bodyPost_ret (rstep_results (s := s) (hs) HB7.out (by rfl) (by rfl)) rfl ?_
    exact rstep_end (N := gr + 1) HO.out (by omega) (by omega) HM7.out (by rw [hgs]; exact HBB.out) (by first | (simp [stepF, nowF, lockF, lateF, prevF, precF, agreedF, beginOut, h1, h2, h3, k12, hr, g0, g1]; done) | (simp [stepF, nowF, lockF, lateF, prevF, precF, agreedF, beginOut, h1, h2, h3, k12, hr, g0, g1]; omega) | (simp [stepF, nowF, lockF, lateF, prevF, precF, agreedF, beginOut, h1, h2, h3, k12, hr, g0, g1]; intros; omega))
  | false =>
    obtain ⟨c0, c1, c2, c34, c35, c67, c68, c100, c101⟩ := st_out HS0.out hs
    obtain ⟨d0, d1, d2, d34, d35, d36⟩ := in_out HI0.out hi
    rw [hg] at d35
    have h1 := Kh1.out
    have h2 := Kh2.out
    have h3 := Kh3.out
    have k12 := Kk12.out
    have hr := Khr.out
    have g0 := Kg0.out
    have g1 := Kg1.out
    have el : decide (i.round < 0) = false := by simpa using h1
    have em : decide (1048576 < i.round) = false := by simpa using h2
    have e4 : (s.step == 4) = false := by simpa using h3
    have en1 : (i.kind == 1) = false := by simp [k12]
    have en2 : (i.kind == 2) = false := by simp [k12]
    have en3 : (i.kind == 3) = false := by simp [k12]
    have en4 : (i.kind == 4) = false := by simp [k12]
    have en5 : (i.kind == 5) = false := by simp [k12]
    have en6 : (i.kind == 6) = false := by simp [k12]
    have en7 : (i.kind == 7) = false := by simp [k12]
    have en8 : (i.kind == 8) = false := by simp [k12]
    have en9 : (i.kind == 9) = false := by simp [k12]
    have en10 : (i.kind == 10) = false := by simp [k12]
    have en11 : (i.kind == 11) = false := by simp [k12]
    have en12 : (i.kind == 12) = true := by simp [k12]
    have er : (i.round == s.round) = true := by simp [hr]
    have f0 : decide (1 ≤ s.step) = true := by simpa using g0
    have f1 : decide (s.step ≤ 3) = false := by simpa using g1
    clear h1 h2 h3 k12 hr g0 g1
    have hsr := HS0.out.all
    have hlr := St.cells_len (s := s) (hs)
    have HRR := HR0
    have HBB := HB0
    have HO := Lib.hid (show ROutAt w0 (gr + 1) (.slice none 0 0) none from rfl)
    go_wp2_with (first | (refine wpList_val (by rfl) (run_load_seg 31 _ (by with_reducible rfl) gs 0 (by rfl) _ (by assumption) 102 (by assumption) _ Tryd.underlying31 (by rfl) hi_rstate) ?_) | (refine wpList_puts (by rfl) 31 _ _ (by with_reducible rfl) gr 0 (by rfl) (St.cells s) (by rfl) 31 St.zero.cells (by exact HRR.out) 102 (by assumption) (by rw [St.cells_len St.zero_good]; omega) hi_rstate St.one_cells ?_; intro w7 hb7 hm7 hz7; rw [put_all (by rw [St.cells_len St.zero_good]; assumption)] at hb7; have HB7 := Lib.hid hb7; have HM7 := Lib.hid hm7; clear hb7 hm7))
    have h1 := Kh1.out
    have h2 := Kh2.out
    have h3 := Kh3.out
    have k12 := Kk12.out
    have hr := Khr.out
    have g0 := Kg0.out
    have g1 := Kg1.out
    refine bodyPost_ret (rstep_results (s := s) (hs) HB7.out (by rfl) (by rfl)) rfl ?_
    exact rstep_end (N := gr + 1) HO.out (by omega) (by omega) HM7.out (by rw [hgs]; exact HBB.out) (by first | (simp [stepF, nowF, lockF, lateF, prevF, precF, agreedF, beginOut, h1, h2, h3, k12, hr, g0, g1]; done) | (simp [stepF, nowF, lockF, lateF, prevF, precF, agreedF, beginOut, h1, h2, h3, k12, hr, g0, g1]; omega) | (simp [stepF, nowF, lockF, lateF, prevF, precF, agreedF, beginOut, h1, h2, h3, k12, hr, g0, g1]; intros; omega))

set_option maxRecDepth 100000 in
set_option maxHeartbeats 4000000 in
theorem rstepL_d12c (s : St) (i : In) (w : World) (hs : s.good) (hi : i.fits) (h1 : ¬ i.round < 0) (h2 : ¬ 1048576 < i.round) (h3 : ¬ s.step = 4) (k12 : i.kind = 12) (hr : i.round = s.round) (g0 : 1 ≤ s.step) (g1 : s.step ≤ 3) (g2 : ¬ (i.round < 1048576)) :
    Calls Tryd.prog 11 #[.agg s.cells.toArray, .agg i.cells.toArray] w (RTold w (stepF s i)) := by
  have Kh1 := Lib.hid h1
  have Kh2 := Lib.hid h2
  have Kh3 := Lib.hid h3
  have Kk12 := Lib.hid k12
  have Khr := Lib.hid hr
  have Kg0 := Lib.hid g0
  have Kg1 := Lib.hid g1
  have Kg2 := Lib.hid g2
  clear h1 h2 h3 k12 hr g0 g1 g2
  have hzs := zero_rstate
  have hz := zeros_len
  have hzl : (bts zeros).length = 32 := by rw [bts_len, zeros_len]
  have hbl : (bts i.block).length = 32 := by rw [bts_len, hi.block]
  have hol : (bts i.own).length = 32 := by rw [bts_len, hi.own]
  have hll : (bts s.locked).length = 32 := by rw [bts_len, hs.locked]
  have hvl : (bts s.valid).length = 32 := by rw [bts_len, hs.valid]
  have hib := hi.block
  have hio := hi.own
  have hsk := hs.locked
  have hcl := In.cells_len hi
  have hsl := St.cells_len hs
  go_enter Tryd.func11, Tryd.ntmps11
  go_upto_region 1 with fail
  have HS0 := Lib.hid (show Bk (((w.alloc (.cells s.cells.toArray 31)).alloc (.cells i.cells.toArray 36)).alloc (.cells St.zero.cells.toArray 31)) w.heap.size 31 s.cells.toArray from ((Bk.new w 31 s.cells.toArray).alloc _).alloc _)
  have HI0 := Lib.hid (show Bk (((w.alloc (.cells s.cells.toArray 31)).alloc (.cells i.cells.toArray 36)).alloc (.cells St.zero.cells.toArray 31)) (w.heap.size + 1) 36 i.cells.toArray from by have := (Bk.new (w.alloc (.cells s.cells.toArray 31)) 36 i.cells.toArray).alloc (.cells St.zero.cells.toArray 31); simpa using this)
  have HR0 := Lib.hid (show Bk (((w.alloc (.cells s.cells.toArray 31)).alloc (.cells i.cells.toArray 36)).alloc (.cells St.zero.cells.toArray 31)) (w.heap.size + 1 + 1) 31 St.zero.cells.toArray from by have := Bk.new ((w.alloc (.cells s.cells.toArray 31)).alloc (.cells i.cells.toArray 36)) 31 St.zero.cells.toArray; simpa using this)
  have HB0 := Lib.hid (show Below w.heap.size w (((w.alloc (.cells s.cells.toArray 31)).alloc (.cells i.cells.toArray 36)).alloc (.cells St.zero.cells.toArray 31)) from (by (first | assumption | (repeat (first | exact Below.refl _ _ | assumption | apply Below.drew | apply below_drewN | (refine Below.setCell ?_ (by (try simp) <;> omega) _) | (refine Below.alloc ?_ (by (try simp) <;> omega) _))))))
  obtain ⟨v0, hv0⟩ : ∃ v0, ((w.alloc (.cells s.cells.toArray 31)).alloc (.cells i.cells.toArray 36)).alloc (.cells St.zero.cells.toArray 31) = v0 := ⟨_, rfl⟩
  have hsz : v0.heap.size = w.heap.size + 1 + 1 + 1 := by rw [← hv0]; simp
  obtain ⟨gs, hgs⟩ : ∃ gs, w.heap.size = gs := ⟨_, rfl⟩
  rw [hv0] at HS0 HI0 HR0 HB0 ⊢
  rw [hgs] at HS0 HI0 HR0 HB0 hsz ⊢
  obtain ⟨gi, hgi⟩ : ∃ gi, gs + 1 = gi := ⟨_, rfl⟩
  rw [hgi] at HI0 HR0 hsz ⊢
  obtain ⟨gr, hgr⟩ : ∃ gr, gi + 1 = gr := ⟨_, rfl⟩
  rw [hgr] at HR0 hsz ⊢
  clear hv0 hzs
  obtain ⟨d0, d1, d2, d34, d35, d36⟩ := in_out HI0.out hi
  go_wp2_with (refine wpList_val (by rfl) (run_load_seg 23 _ (by with_reducible rfl) _ _ (by rfl) _ (by assumption) 32 (by assumption) _ hu_hash (by rfl) hi_hash) ?_)
  with_reducible refine (rempty_any i.block hi.block _).mono ?_
  rintro e v1 ⟨rfl, hb1⟩
  have HS1 := Lib.hid (HS0.out.below hb1 HS0.out.lt)
  have HI1 := Lib.hid (HI0.out.below hb1 HI0.out.lt)
  have HR1 := Lib.hid (HR0.out.below hb1 HR0.out.lt)
  have HB1 := Lib.hid (HB0.out.trans (hb1.mono (by omega)))
  have hz1 := hb1.size
  clear hb1 HS0 HI0 HR0 HB0 d0 d1 d2 d34 d35 d36
  obtain ⟨d0, d1, d2, d34, d35, d36⟩ := in_out HI1.out hi
  go_wp2_with (refine wpList_val (by rfl) (run_load_seg 23 _ (by with_reducible rfl) _ _ (by rfl) _ (by assumption) 32 (by assumption) _ hu_hash (by rfl) hi_hash) ?_)
  with_reducible refine (rempty_any i.own hi.own _).mono ?_
  rintro e w0 ⟨rfl, hb1⟩
  have HS0 := Lib.hid (HS1.out.below hb1 HS1.out.lt)
  have HI0 := Lib.hid (HI1.out.below hb1 HI1.out.lt)
  have HR0 := Lib.hid (HR1.out.below hb1 HR1.out.lt)
  have HB0 : Hid (Below gs w w0) := Lib.hid (HB1.out.trans (hb1.mono (by omega)))
  have hz0 : v0.heap.size ≤ w0.heap.size := Nat.le_trans hz1 hb1.size
  clear hb1 HS1 HI1 HR1 HB1 d0 d1 d2 d34 d35 d36 hz1
  cases hg : i.good with
  | true =>
    obtain ⟨c0, c1, c2, c34, c35, c67, c68, c100, c101⟩ := st_out HS0.out hs
    obtain ⟨d0, d1, d2, d34, d35, d36⟩ := in_out HI0.out hi
    rw [hg] at d35
    have h1 := Kh1.out
    have h2 := Kh2.out
    have h3 := Kh3.out
    have k12 := Kk12.out
    have hr := Khr.out
    have g0 := Kg0.out
    have g1 := Kg1.out
    have g2 := Kg2.out
    have el : decide (i.round < 0) = false := by simpa using h1
    have em : decide (1048576 < i.round) = false := by simpa using h2
    have e4 : (s.step == 4) = false := by simpa using h3
    have en1 : (i.kind == 1) = false := by simp [k12]
    have en2 : (i.kind == 2) = false := by simp [k12]
    have en3 : (i.kind == 3) = false := by simp [k12]
    have en4 : (i.kind == 4) = false := by simp [k12]
    have en5 : (i.kind == 5) = false := by simp [k12]
    have en6 : (i.kind == 6) = false := by simp [k12]
    have en7 : (i.kind == 7) = false := by simp [k12]
    have en8 : (i.kind == 8) = false := by simp [k12]
    have en9 : (i.kind == 9) = false := by simp [k12]
    have en10 : (i.kind == 10) = false := by simp [k12]
    have en11 : (i.kind == 11) = false := by simp [k12]
    have en12 : (i.kind == 12) = true := by simp [k12]
    have er : (i.round == s.round) = true := by simp [hr]
    have f0 : decide (1 ≤ s.step) = true := by simpa using g0
    have f1 : decide (s.step ≤ 3) = true := by simpa using g1
    have f2 : decide (i.round < 1048576) = false := by simpa using g2
    clear h1 h2 h3 k12 hr g0 g1 g2
    have hsr := HS0.out.all
    have hlr := St.cells_len (s := s) (hs)
    have HRR := HR0
    have HBB := HB0
    have HO := Lib.hid (show ROutAt w0 (gr + 1) (.slice none 0 0) none from rfl)
    go_wp2_with (first | (refine wpList_val (by rfl) (run_load_seg 31 _ (by with_reducible rfl) gs 0 (by rfl) _ (by assumption) 102 (by assumption) _ Tryd.underlying31 (by rfl) hi_rstate) ?_) | (refine wpList_puts (by rfl) 31 _ _ (by with_reducible rfl) gr 0 (by rfl) (St.cells s) (by rfl) 31 St.zero.cells (by exact HRR.out) 102 (by assumption) (by rw [St.cells_len St.zero_good]; omega) hi_rstate St.one_cells ?_; intro w7 hb7 hm7 hz7; rw [put_all (by rw [St.cells_len St.zero_good]; assumption)] at hb7; have HB7 := Lib.hid hb7; have HM7 := Lib.hid hm7; clear hb7 hm7))
    have h1 := Kh1.out
    have h2 := Kh2.out
    have h3 := Kh3.out
    have k12 := Kk12.out
    have hr := Khr.out
    have g0 := Kg0.out
    have g1 := Kg1.out
    have g2 := Kg2.out
    refine bodyPost_ret (rstep_results (s := s) (hs) HB7.out (by rfl) (by rfl)) rfl ?_
    exact rstep_end (N := gr + 1) HO.out (by omega) (by omega) HM7.out (by rw [hgs]; exact HBB.out) (by first | (simp [stepF, nowF, lockF, lateF, prevF, precF, agreedF, beginOut, h1, h2, h3, k12, hr, g0, g1, g2]; done) | (simp [stepF, nowF, lockF, lateF, prevF, precF, agreedF, beginOut, h1, h2, h3, k12, hr, g0, g1, g2]; omega) | (simp [stepF, nowF, lockF, lateF, prevF, precF, agreedF, beginOut, h1, h2, h3, k12, hr, g0, g1, g2]; intros; omega))
  | false =>
    obtain ⟨c0, c1, c2, c34, c35, c67, c68, c100, c101⟩ := st_out HS0.out hs
    obtain ⟨d0, d1, d2, d34, d35, d36⟩ := in_out HI0.out hi
    rw [hg] at d35
    have h1 := Kh1.out
    have h2 := Kh2.out
    have h3 := Kh3.out
    have k12 := Kk12.out
    have hr := Khr.out
    have g0 := Kg0.out
    have g1 := Kg1.out
    have g2 := Kg2.out
    have el : decide (i.round < 0) = false := by simpa using h1
    have em : decide (1048576 < i.round) = false := by simpa using h2
    have e4 : (s.step == 4) = false := by simpa using h3
    have en1 : (i.kind == 1) = false := by simp [k12]
    have en2 : (i.kind == 2) = false := by simp [k12]
    have en3 : (i.kind == 3) = false := by simp [k12]
    have en4 : (i.kind == 4) = false := by simp [k12]
    have en5 : (i.kind == 5) = false := by simp [k12]
    have en6 : (i.kind == 6) = false := by simp [k12]
    have en7 : (i.kind == 7) = false := by simp [k12]
    have en8 : (i.kind == 8) = false := by simp [k12]
    have en9 : (i.kind == 9) = false := by simp [k12]
    have en10 : (i.kind == 10) = false := by simp [k12]
    have en11 : (i.kind == 11) = false := by simp [k12]
    have en12 : (i.kind == 12) = true := by simp [k12]
    have er : (i.round == s.round) = true := by simp [hr]
    have f0 : decide (1 ≤ s.step) = true := by simpa using g0
    have f1 : decide (s.step ≤ 3) = true := by simpa using g1
    have f2 : decide (i.round < 1048576) = false := by simpa using g2
    clear h1 h2 h3 k12 hr g0 g1 g2
    have hsr := HS0.out.all
    have hlr := St.cells_len (s := s) (hs)
    have HRR := HR0
    have HBB := HB0
    have HO := Lib.hid (show ROutAt w0 (gr + 1) (.slice none 0 0) none from rfl)
    go_wp2_with (first | (refine wpList_val (by rfl) (run_load_seg 31 _ (by with_reducible rfl) gs 0 (by rfl) _ (by assumption) 102 (by assumption) _ Tryd.underlying31 (by rfl) hi_rstate) ?_) | (refine wpList_puts (by rfl) 31 _ _ (by with_reducible rfl) gr 0 (by rfl) (St.cells s) (by rfl) 31 St.zero.cells (by exact HRR.out) 102 (by assumption) (by rw [St.cells_len St.zero_good]; omega) hi_rstate St.one_cells ?_; intro w7 hb7 hm7 hz7; rw [put_all (by rw [St.cells_len St.zero_good]; assumption)] at hb7; have HB7 := Lib.hid hb7; have HM7 := Lib.hid hm7; clear hb7 hm7))
    have h1 := Kh1.out
    have h2 := Kh2.out
    have h3 := Kh3.out
    have k12 := Kk12.out
    have hr := Khr.out
    have g0 := Kg0.out
    have g1 := Kg1.out
    have g2 := Kg2.out
    refine bodyPost_ret (rstep_results (s := s) (hs) HB7.out (by rfl) (by rfl)) rfl ?_
    exact rstep_end (N := gr + 1) HO.out (by omega) (by omega) HM7.out (by rw [hgs]; exact HBB.out) (by first | (simp [stepF, nowF, lockF, lateF, prevF, precF, agreedF, beginOut, h1, h2, h3, k12, hr, g0, g1, g2]; done) | (simp [stepF, nowF, lockF, lateF, prevF, precF, agreedF, beginOut, h1, h2, h3, k12, hr, g0, g1, g2]; omega) | (simp [stepF, nowF, lockF, lateF, prevF, precF, agreedF, beginOut, h1, h2, h3, k12, hr, g0, g1, g2]; intros; omega))

set_option maxRecDepth 100000 in
set_option maxHeartbeats 4000000 in
theorem rstepL_d9 (s : St) (i : In) (w : World) (hs : s.good) (hi : i.fits) (h1 : ¬ i.round < 0) (h2 : ¬ 1048576 < i.round) (h3 : ¬ s.step = 4) (k9 : i.kind = 9) (hle : ¬ s.round < i.round) :
    Calls Tryd.prog 11 #[.agg s.cells.toArray, .agg i.cells.toArray] w (RTold w (stepF s i)) := by
  have Kh1 := Lib.hid h1
  have Kh2 := Lib.hid h2
  have Kh3 := Lib.hid h3
  have Kk9 := Lib.hid k9
  have Khle := Lib.hid hle
  clear h1 h2 h3 k9 hle
  have hzs := zero_rstate
  have hz := zeros_len
  have hzl : (bts zeros).length = 32 := by rw [bts_len, zeros_len]
  have hbl : (bts i.block).length = 32 := by rw [bts_len, hi.block]
  have hol : (bts i.own).length = 32 := by rw [bts_len, hi.own]
  have hll : (bts s.locked).length = 32 := by rw [bts_len, hs.locked]
  have hvl : (bts s.valid).length = 32 := by rw [bts_len, hs.valid]
  have hib := hi.block
  have hio := hi.own
  have hsk := hs.locked
  have hcl := In.cells_len hi
  have hsl := St.cells_len hs
  go_enter Tryd.func11, Tryd.ntmps11
  go_upto_region 1 with fail
  have HS0 := Lib.hid (show Bk (((w.alloc (.cells s.cells.toArray 31)).alloc (.cells i.cells.toArray 36)).alloc (.cells St.zero.cells.toArray 31)) w.heap.size 31 s.cells.toArray from ((Bk.new w 31 s.cells.toArray).alloc _).alloc _)
  have HI0 := Lib.hid (show Bk (((w.alloc (.cells s.cells.toArray 31)).alloc (.cells i.cells.toArray 36)).alloc (.cells St.zero.cells.toArray 31)) (w.heap.size + 1) 36 i.cells.toArray from by have := (Bk.new (w.alloc (.cells s.cells.toArray 31)) 36 i.cells.toArray).alloc (.cells St.zero.cells.toArray 31); simpa using this)
  have HR0 := Lib.hid (show Bk (((w.alloc (.cells s.cells.toArray 31)).alloc (.cells i.cells.toArray 36)).alloc (.cells St.zero.cells.toArray 31)) (w.heap.size + 1 + 1) 31 St.zero.cells.toArray from by have := Bk.new ((w.alloc (.cells s.cells.toArray 31)).alloc (.cells i.cells.toArray 36)) 31 St.zero.cells.toArray; simpa using this)
  have HB0 := Lib.hid (show Below w.heap.size w (((w.alloc (.cells s.cells.toArray 31)).alloc (.cells i.cells.toArray 36)).alloc (.cells St.zero.cells.toArray 31)) from (by (first | assumption | (repeat (first | exact Below.refl _ _ | assumption | apply Below.drew | apply below_drewN | (refine Below.setCell ?_ (by (try simp) <;> omega) _) | (refine Below.alloc ?_ (by (try simp) <;> omega) _))))))
  obtain ⟨v0, hv0⟩ : ∃ v0, ((w.alloc (.cells s.cells.toArray 31)).alloc (.cells i.cells.toArray 36)).alloc (.cells St.zero.cells.toArray 31) = v0 := ⟨_, rfl⟩
  have hsz : v0.heap.size = w.heap.size + 1 + 1 + 1 := by rw [← hv0]; simp
  obtain ⟨gs, hgs⟩ : ∃ gs, w.heap.size = gs := ⟨_, rfl⟩
  rw [hv0] at HS0 HI0 HR0 HB0 ⊢
  rw [hgs] at HS0 HI0 HR0 HB0 hsz ⊢
  obtain ⟨gi, hgi⟩ : ∃ gi, gs + 1 = gi := ⟨_, rfl⟩
  rw [hgi] at HI0 HR0 hsz ⊢
  obtain ⟨gr, hgr⟩ : ∃ gr, gi + 1 = gr := ⟨_, rfl⟩
  rw [hgr] at HR0 hsz ⊢
  clear hv0 hzs
  obtain ⟨d0, d1, d2, d34, d35, d36⟩ := in_out HI0.out hi
  go_wp2_with (refine wpList_val (by rfl) (run_load_seg 23 _ (by with_reducible rfl) _ _ (by rfl) _ (by assumption) 32 (by assumption) _ hu_hash (by rfl) hi_hash) ?_)
  with_reducible refine (rempty_any i.block hi.block _).mono ?_
  rintro e v1 ⟨rfl, hb1⟩
  have HS1 := Lib.hid (HS0.out.below hb1 HS0.out.lt)
  have HI1 := Lib.hid (HI0.out.below hb1 HI0.out.lt)
  have HR1 := Lib.hid (HR0.out.below hb1 HR0.out.lt)
  have HB1 := Lib.hid (HB0.out.trans (hb1.mono (by omega)))
  have hz1 := hb1.size
  clear hb1 HS0 HI0 HR0 HB0 d0 d1 d2 d34 d35 d36
  obtain ⟨d0, d1, d2, d34, d35, d36⟩ := in_out HI1.out hi
  go_wp2_with (refine wpList_val (by rfl) (run_load_seg 23 _ (by with_reducible rfl) _ _ (by rfl) _ (by assumption) 32 (by assumption) _ hu_hash (by rfl) hi_hash) ?_)
  with_reducible refine (rempty_any i.own hi.own _).mono ?_
  rintro e w0 ⟨rfl, hb1⟩
  have HS0 := Lib.hid (HS1.out.below hb1 HS1.out.lt)
  have HI0 := Lib.hid (HI1.out.below hb1 HI1.out.lt)
  have HR0 := Lib.hid (HR1.out.below hb1 HR1.out.lt)
  have HB0 : Hid (Below gs w w0) := Lib.hid (HB1.out.trans (hb1.mono (by omega)))
  have hz0 : v0.heap.size ≤ w0.heap.size := Nat.le_trans hz1 hb1.size
  clear hb1 HS1 HI1 HR1 HB1 d0 d1 d2 d34 d35 d36 hz1
  cases hg : i.good with
  | true =>
    obtain ⟨c0, c1, c2, c34, c35, c67, c68, c100, c101⟩ := st_out HS0.out hs
    obtain ⟨d0, d1, d2, d34, d35, d36⟩ := in_out HI0.out hi
    rw [hg] at d35
    have h1 := Kh1.out
    have h2 := Kh2.out
    have h3 := Kh3.out
    have k9 := Kk9.out
    have hle := Khle.out
    have el : decide (i.round < 0) = false := by simpa using h1
    have em : decide (1048576 < i.round) = false := by simpa using h2
    have e4 : (s.step == 4) = false := by simpa using h3
    have en1 : (i.kind == 1) = false := by simp [k9]
    have en2 : (i.kind == 2) = false := by simp [k9]
    have en3 : (i.kind == 3) = false := by simp [k9]
    have en4 : (i.kind == 4) = false := by simp [k9]
    have en5 : (i.kind == 5) = false := by simp [k9]
    have en6 : (i.kind == 6) = false := by simp [k9]
    have en7 : (i.kind == 7) = false := by simp [k9]
    have en8 : (i.kind == 8) = false := by simp [k9]
    have en9 : (i.kind == 9) = true := by simp [k9]
    have en10 : (i.kind == 10) = false := by simp [k9]
    have en11 : (i.kind == 11) = false := by simp [k9]
    have en12 : (i.kind == 12) = false := by simp [k9]
    have f1 : decide (s.round < i.round) = false := by simpa using hle
    clear h1 h2 h3 k9 hle
    have hsr := HS0.out.all
    have hlr := St.cells_len (s := s) (hs)
    have HRR := HR0
    have HBB := HB0
    have HO := Lib.hid (show ROutAt w0 (gr + 1) (.slice none 0 0) none from rfl)
    go_wp2_with (first | (refine wpList_val (by rfl) (run_load_seg 31 _ (by with_reducible rfl) gs 0 (by rfl) _ (by assumption) 102 (by assumption) _ Tryd.underlying31 (by rfl) hi_rstate) ?_) | (refine wpList_puts (by rfl) 31 _ _ (by with_reducible rfl) gr 0 (by rfl) (St.cells s) (by rfl) 31 St.zero.cells (by exact HRR.out) 102 (by assumption) (by rw [St.cells_len St.zero_good]; omega) hi_rstate St.one_cells ?_; intro w7 hb7 hm7 hz7; rw [put_all (by rw [St.cells_len St.zero_good]; assumption)] at hb7; have HB7 := Lib.hid hb7; have HM7 := Lib.hid hm7; clear hb7 hm7))
    have h1 := Kh1.out
    have h2 := Kh2.out
    have h3 := Kh3.out
    have k9 := Kk9.out
    have hle := Khle.out
    refine bodyPost_ret (rstep_results (s := s) (hs) HB7.out (by rfl) (by rfl)) rfl ?_
    exact rstep_end (N := gr + 1) HO.out (by omega) (by omega) HM7.out (by rw [hgs]; exact HBB.out) (by first | (simp [stepF, nowF, lockF, lateF, prevF, precF, agreedF, beginOut, h1, h2, h3, k9, hle]; done) | (simp [stepF, nowF, lockF, lateF, prevF, precF, agreedF, beginOut, h1, h2, h3, k9, hle]; omega) | (simp [stepF, nowF, lockF, lateF, prevF, precF, agreedF, beginOut, h1, h2, h3, k9, hle]; intros; omega))
  | false =>
    obtain ⟨c0, c1, c2, c34, c35, c67, c68, c100, c101⟩ := st_out HS0.out hs
    obtain ⟨d0, d1, d2, d34, d35, d36⟩ := in_out HI0.out hi
    rw [hg] at d35
    have h1 := Kh1.out
    have h2 := Kh2.out
    have h3 := Kh3.out
    have k9 := Kk9.out
    have hle := Khle.out
    have el : decide (i.round < 0) = false := by simpa using h1
    have em : decide (1048576 < i.round) = false := by simpa using h2
    have e4 : (s.step == 4) = false := by simpa using h3
    have en1 : (i.kind == 1) = false := by simp [k9]
    have en2 : (i.kind == 2) = false := by simp [k9]
    have en3 : (i.kind == 3) = false := by simp [k9]
    have en4 : (i.kind == 4) = false := by simp [k9]
    have en5 : (i.kind == 5) = false := by simp [k9]
    have en6 : (i.kind == 6) = false := by simp [k9]
    have en7 : (i.kind == 7) = false := by simp [k9]
    have en8 : (i.kind == 8) = false := by simp [k9]
    have en9 : (i.kind == 9) = true := by simp [k9]
    have en10 : (i.kind == 10) = false := by simp [k9]
    have en11 : (i.kind == 11) = false := by simp [k9]
    have en12 : (i.kind == 12) = false := by simp [k9]
    have f1 : decide (s.round < i.round) = false := by simpa using hle
    clear h1 h2 h3 k9 hle
    have hsr := HS0.out.all
    have hlr := St.cells_len (s := s) (hs)
    have HRR := HR0
    have HBB := HB0
    have HO := Lib.hid (show ROutAt w0 (gr + 1) (.slice none 0 0) none from rfl)
    go_wp2_with (first | (refine wpList_val (by rfl) (run_load_seg 31 _ (by with_reducible rfl) gs 0 (by rfl) _ (by assumption) 102 (by assumption) _ Tryd.underlying31 (by rfl) hi_rstate) ?_) | (refine wpList_puts (by rfl) 31 _ _ (by with_reducible rfl) gr 0 (by rfl) (St.cells s) (by rfl) 31 St.zero.cells (by exact HRR.out) 102 (by assumption) (by rw [St.cells_len St.zero_good]; omega) hi_rstate St.one_cells ?_; intro w7 hb7 hm7 hz7; rw [put_all (by rw [St.cells_len St.zero_good]; assumption)] at hb7; have HB7 := Lib.hid hb7; have HM7 := Lib.hid hm7; clear hb7 hm7))
    have h1 := Kh1.out
    have h2 := Kh2.out
    have h3 := Kh3.out
    have k9 := Kk9.out
    have hle := Khle.out
    refine bodyPost_ret (rstep_results (s := s) (hs) HB7.out (by rfl) (by rfl)) rfl ?_
    exact rstep_end (N := gr + 1) HO.out (by omega) (by omega) HM7.out (by rw [hgs]; exact HBB.out) (by first | (simp [stepF, nowF, lockF, lateF, prevF, precF, agreedF, beginOut, h1, h2, h3, k9, hle]; done) | (simp [stepF, nowF, lockF, lateF, prevF, precF, agreedF, beginOut, h1, h2, h3, k9, hle]; omega) | (simp [stepF, nowF, lockF, lateF, prevF, precF, agreedF, beginOut, h1, h2, h3, k9, hle]; intros; omega))

set_option maxRecDepth 100000 in
set_option maxHeartbeats 4000000 in
theorem rstepL_do (s : St) (i : In) (w : World) (hs : s.good) (hi : i.fits) (h1 : ¬ i.round < 0) (h2 : ¬ 1048576 < i.round) (h3 : ¬ s.step = 4) (n1 : ¬ i.kind = 1) (n2 : ¬ i.kind = 2) (n3 : ¬ i.kind = 3) (n4 : ¬ i.kind = 4) (n5 : ¬ i.kind = 5) (n6 : ¬ i.kind = 6) (n7 : ¬ i.kind = 7) (n8 : ¬ i.kind = 8) (n9 : ¬ i.kind = 9) (n10 : ¬ i.kind = 10) (n11 : ¬ i.kind = 11) (n12 : ¬ i.kind = 12) :
    Calls Tryd.prog 11 #[.agg s.cells.toArray, .agg i.cells.toArray] w (RTold w (stepF s i)) := by
  have Kh1 := Lib.hid h1
  have Kh2 := Lib.hid h2
  have Kh3 := Lib.hid h3
  have Kn1 := Lib.hid n1
  have Kn2 := Lib.hid n2
  have Kn3 := Lib.hid n3
  have Kn4 := Lib.hid n4
  have Kn5 := Lib.hid n5
  have Kn6 := Lib.hid n6
  have Kn7 := Lib.hid n7
  have Kn8 := Lib.hid n8
  have Kn9 := Lib.hid n9
  have Kn10 := Lib.hid n10
  have Kn11 := Lib.hid n11
  have Kn12 := Lib.hid n12
  clear h1 h2 h3 n1 n2 n3 n4 n5 n6 n7 n8 n9 n10 n11 n12
  have hzs := zero_rstate
  have hz := zeros_len
  have hzl : (bts zeros).length = 32 := by rw [bts_len, zeros_len]
  have hbl : (bts i.block).length = 32 := by rw [bts_len, hi.block]
  have hol : (bts i.own).length = 32 := by rw [bts_len, hi.own]
  have hll : (bts s.locked).length = 32 := by rw [bts_len, hs.locked]
  have hvl : (bts s.valid).length = 32 := by rw [bts_len, hs.valid]
  have hib := hi.block
  have hio := hi.own
  have hsk := hs.locked
  have hcl := In.cells_len hi
  have hsl := St.cells_len hs
  go_enter Tryd.func11, Tryd.ntmps11
  go_upto_region 1 with fail
  have HS0 := Lib.hid (show Bk (((w.alloc (.cells s.cells.toArray 31)).alloc (.cells i.cells.toArray 36)).alloc (.cells St.zero.cells.toArray 31)) w.heap.size 31 s.cells.toArray from ((Bk.new w 31 s.cells.toArray).alloc _).alloc _)
  have HI0 := Lib.hid (show Bk (((w.alloc (.cells s.cells.toArray 31)).alloc (.cells i.cells.toArray 36)).alloc (.cells St.zero.cells.toArray 31)) (w.heap.size + 1) 36 i.cells.toArray from by have := (Bk.new (w.alloc (.cells s.cells.toArray 31)) 36 i.cells.toArray).alloc (.cells St.zero.cells.toArray 31); simpa using this)
  have HR0 := Lib.hid (show Bk (((w.alloc (.cells s.cells.toArray 31)).alloc (.cells i.cells.toArray 36)).alloc (.cells St.zero.cells.toArray 31)) (w.heap.size + 1 + 1) 31 St.zero.cells.toArray from by have := Bk.new ((w.alloc (.cells s.cells.toArray 31)).alloc (.cells i.cells.toArray 36)) 31 St.zero.cells.toArray; simpa using this)
  have HB0 := Lib.hid (show Below w.heap.size w (((w.alloc (.cells s.cells.toArray 31)).alloc (.cells i.cells.toArray 36)).alloc (.cells St.zero.cells.toArray 31)) from (by (first | assumption | (repeat (first | exact Below.refl _ _ | assumption | apply Below.drew | apply below_drewN | (refine Below.setCell ?_ (by (try simp) <;> omega) _) | (refine Below.alloc ?_ (by (try simp) <;> omega) _))))))
  obtain ⟨v0, hv0⟩ : ∃ v0, ((w.alloc (.cells s.cells.toArray 31)).alloc (.cells i.cells.toArray 36)).alloc (.cells St.zero.cells.toArray 31) = v0 := ⟨_, rfl⟩
  have hsz : v0.heap.size = w.heap.size + 1 + 1 + 1 := by rw [← hv0]; simp
  obtain ⟨gs, hgs⟩ : ∃ gs, w.heap.size = gs := ⟨_, rfl⟩
  rw [hv0] at HS0 HI0 HR0 HB0 ⊢
  rw [hgs] at HS0 HI0 HR0 HB0 hsz ⊢
  obtain ⟨gi, hgi⟩ : ∃ gi, gs + 1 = gi := ⟨_, rfl⟩
  rw [hgi] at HI0 HR0 hsz ⊢
  obtain ⟨gr, hgr⟩ : ∃ gr, gi + 1 = gr := ⟨_, rfl⟩
  rw [hgr] at HR0 hsz ⊢
  clear hv0 hzs
  obtain ⟨d0, d1, d2, d34, d35, d36⟩ := in_out HI0.out hi
  go_wp2_with (refine wpList_val (by rfl) (run_load_seg 23 _ (by with_reducible rfl) _ _ (by rfl) _ (by assumption) 32 (by assumption) _ hu_hash (by rfl) hi_hash) ?_)
  with_reducible refine (rempty_any i.block hi.block _).mono ?_
  rintro e v1 ⟨rfl, hb1⟩
  have HS1 := Lib.hid (HS0.out.below hb1 HS0.out.lt)
  have HI1 := Lib.hid (HI0.out.below hb1 HI0.out.lt)
  have HR1 := Lib.hid (HR0.out.below hb1 HR0.out.lt)
  have HB1 := Lib.hid (HB0.out.trans (hb1.mono (by omega)))
  have hz1 := hb1.size
  clear hb1 HS0 HI0 HR0 HB0 d0 d1 d2 d34 d35 d36
  obtain ⟨d0, d1, d2, d34, d35, d36⟩ := in_out HI1.out hi
  go_wp2_with (refine wpList_val (by rfl) (run_load_seg 23 _ (by with_reducible rfl) _ _ (by rfl) _ (by assumption) 32 (by assumption) _ hu_hash (by rfl) hi_hash) ?_)
  with_reducible refine (rempty_any i.own hi.own _).mono ?_
  rintro e w0 ⟨rfl, hb1⟩
  have HS0 := Lib.hid (HS1.out.below hb1 HS1.out.lt)
  have HI0 := Lib.hid (HI1.out.below hb1 HI1.out.lt)
  have HR0 := Lib.hid (HR1.out.below hb1 HR1.out.lt)
  have HB0 : Hid (Below gs w w0) := Lib.hid (HB1.out.trans (hb1.mono (by omega)))
  have hz0 : v0.heap.size ≤ w0.heap.size := Nat.le_trans hz1 hb1.size
  clear hb1 HS1 HI1 HR1 HB1 d0 d1 d2 d34 d35 d36 hz1
  cases hg : i.good with
  | true =>
    obtain ⟨c0, c1, c2, c34, c35, c67, c68, c100, c101⟩ := st_out HS0.out hs
    obtain ⟨d0, d1, d2, d34, d35, d36⟩ := in_out HI0.out hi
    rw [hg] at d35
    have h1 := Kh1.out
    have h2 := Kh2.out
    have h3 := Kh3.out
    have n1 := Kn1.out
    have n2 := Kn2.out
    have n3 := Kn3.out
    have n4 := Kn4.out
    have n5 := Kn5.out
    have n6 := Kn6.out
    have n7 := Kn7.out
    have n8 := Kn8.out
    have n9 := Kn9.out
    have n10 := Kn10.out
    have n11 := Kn11.out
    have n12 := Kn12.out
    have el : decide (i.round < 0) = false := by simpa using h1
    have em : decide (1048576 < i.round) = false := by simpa using h2
    have e4 : (s.step == 4) = false := by simpa using h3
    have en1 : (i.kind == 1) = false := by simpa using n1
    have en2 : (i.kind == 2) = false := by simpa using n2
    have en3 : (i.kind == 3) = false := by simpa using n3
    have en4 : (i.kind == 4) = false := by simpa using n4
    have en5 : (i.kind == 5) = false := by simpa using n5
    have en6 : (i.kind == 6) = false := by simpa using n6
    have en7 : (i.kind == 7) = false := by simpa using n7
    have en8 : (i.kind == 8) = false := by simpa using n8
    have en9 : (i.kind == 9) = false := by simpa using n9
    have en10 : (i.kind == 10) = false := by simpa using n10
    have en11 : (i.kind == 11) = false := by simpa using n11
    have en12 : (i.kind == 12) = false := by simpa using n12
    clear h1 h2 h3 n1 n2 n3 n4 n5 n6 n7 n8 n9 n10 n11 n12
    have hsr := HS0.out.all
    have hlr := St.cells_len (s := s) (hs)
    have HRR := HR0
    have HBB := HB0
    have HO := Lib.hid (show ROutAt w0 (gr + 1) (.slice none 0 0) none from rfl)
    go_wp2_with (first | (refine wpList_val (by rfl) (run_load_seg 31 _ (by with_reducible rfl) gs 0 (by rfl) _ (by assumption) 102 (by assumption) _ Tryd.underlying31 (by rfl) hi_rstate) ?_) | (refine wpList_puts (by rfl) 31 _ _ (by with_reducible rfl) gr 0 (by rfl) (St.cells s) (by rfl) 31 St.zero.cells (by exact HRR.out) 102 (by assumption) (by rw [St.cells_len St.zero_good]; omega) hi_rstate St.one_cells ?_; intro w7 hb7 hm7 hz7; rw [put_all (by rw [St.cells_len St.zero_good]; assumption)] at hb7; have HB7 := Lib.hid hb7; have HM7 := Lib.hid hm7; clear hb7 hm7))
    have h1 := Kh1.out
    have h2 := Kh2.out
    have h3 := Kh3.out
    have n1 := Kn1.out
    have n2 := Kn2.out
    have n3 := Kn3.out
    have n4 := Kn4.out
    have n5 := Kn5.out
    have n6 := Kn6.out
    have n7 := Kn7.out
    have n8 := Kn8.out
    have n9 := Kn9.out
    have n10 := Kn10.out
    have n11 := Kn11.out
    have n12 := Kn12.out
    refine bodyPost_ret (rstep_results (s := s) (hs) HB7.out (by rfl) (by rfl)) rfl ?_
    exact rstep_end (N := gr + 1) HO.out (by omega) (by omega) HM7.out (by rw [hgs]; exact HBB.out) (by first | (simp [stepF, nowF, lockF, lateF, prevF, precF, agreedF, beginOut, h1, h2, h3, n1, n2, n3, n4, n5, n6, n7, n8, n9, n10, n11, n12]; done) | (simp [stepF, nowF, lockF, lateF, prevF, precF, agreedF, beginOut, h1, h2, h3, n1, n2, n3, n4, n5, n6, n7, n8, n9, n10, n11, n12]; omega) | (simp [stepF, nowF, lockF, lateF, prevF, precF, agreedF, beginOut, h1, h2, h3, n1, n2, n3, n4, n5, n6, n7, n8, n9, n10, n11, n12]; intros; omega))
  | false =>
    obtain ⟨c0, c1, c2, c34, c35, c67, c68, c100, c101⟩ := st_out HS0.out hs
    obtain ⟨d0, d1, d2, d34, d35, d36⟩ := in_out HI0.out hi
    rw [hg] at d35
    have h1 := Kh1.out
    have h2 := Kh2.out
    have h3 := Kh3.out
    have n1 := Kn1.out
    have n2 := Kn2.out
    have n3 := Kn3.out
    have n4 := Kn4.out
    have n5 := Kn5.out
    have n6 := Kn6.out
    have n7 := Kn7.out
    have n8 := Kn8.out
    have n9 := Kn9.out
    have n10 := Kn10.out
    have n11 := Kn11.out
    have n12 := Kn12.out
    have el : decide (i.round < 0) = false := by simpa using h1
    have em : decide (1048576 < i.round) = false := by simpa using h2
    have e4 : (s.step == 4) = false := by simpa using h3
    have en1 : (i.kind == 1) = false := by simpa using n1
    have en2 : (i.kind == 2) = false := by simpa using n2
    have en3 : (i.kind == 3) = false := by simpa using n3
    have en4 : (i.kind == 4) = false := by simpa using n4
    have en5 : (i.kind == 5) = false := by simpa using n5
    have en6 : (i.kind == 6) = false := by simpa using n6
    have en7 : (i.kind == 7) = false := by simpa using n7
    have en8 : (i.kind == 8) = false := by simpa using n8
    have en9 : (i.kind == 9) = false := by simpa using n9
    have en10 : (i.kind == 10) = false := by simpa using n10
    have en11 : (i.kind == 11) = false := by simpa using n11
    have en12 : (i.kind == 12) = false := by simpa using n12
    clear h1 h2 h3 n1 n2 n3 n4 n5 n6 n7 n8 n9 n10 n11 n12
    have hsr := HS0.out.all
    have hlr := St.cells_len (s := s) (hs)
    have HRR := HR0
    have HBB := HB0
    have HO := Lib.hid (show ROutAt w0 (gr + 1) (.slice none 0 0) none from rfl)
    go_wp2_with (first | (refine wpList_val (by rfl) (run_load_seg 31 _ (by with_reducible rfl) gs 0 (by rfl) _ (by assumption) 102 (by assumption) _ Tryd.underlying31 (by rfl) hi_rstate) ?_) | (refine wpList_puts (by rfl) 31 _ _ (by with_reducible rfl) gr 0 (by rfl) (St.cells s) (by rfl) 31 St.zero.cells (by exact HRR.out) 102 (by assumption) (by rw [St.cells_len St.zero_good]; omega) hi_rstate St.one_cells ?_; intro w7 hb7 hm7 hz7; rw [put_all (by rw [St.cells_len St.zero_good]; assumption)] at hb7; have HB7 := Lib.hid hb7; have HM7 := Lib.hid hm7; clear hb7 hm7))
    have h1 := Kh1.out
    have h2 := Kh2.out
    have h3 := Kh3.out
    have n1 := Kn1.out
    have n2 := Kn2.out
    have n3 := Kn3.out
    have n4 := Kn4.out
    have n5 := Kn5.out
    have n6 := Kn6.out
    have n7 := Kn7.out
    have n8 := Kn8.out
    have n9 := Kn9.out
    have n10 := Kn10.out
    have n11 := Kn11.out
    have n12 := Kn12.out
    refine bodyPost_ret (rstep_results (s := s) (hs) HB7.out (by rfl) (by rfl)) rfl ?_
    exact rstep_end (N := gr + 1) HO.out (by omega) (by omega) HM7.out (by rw [hgs]; exact HBB.out) (by first | (simp [stepF, nowF, lockF, lateF, prevF, precF, agreedF, beginOut, h1, h2, h3, n1, n2, n3, n4, n5, n6, n7, n8, n9, n10, n11, n12]; done) | (simp [stepF, nowF, lockF, lateF, prevF, precF, agreedF, beginOut, h1, h2, h3, n1, n2, n3, n4, n5, n6, n7, n8, n9, n10, n11, n12]; omega) | (simp [stepF, nowF, lockF, lateF, prevF, precF, agreedF, beginOut, h1, h2, h3, n1, n2, n3, n4, n5, n6, n7, n8, n9, n10, n11, n12]; intros; omega))

set_option maxRecDepth 100000 in
set_option maxHeartbeats 4000000 in
theorem rstepL_d8n (s : St) (i : In) (w : World) (hs : s.good) (hi : i.fits) (h1 : ¬ i.round < 0) (h2 : ¬ 1048576 < i.round) (h3 : ¬ s.step = 4) (k8 : i.kind = 8) (hg : i.good = false) :
    Calls Tryd.prog 11 #[.agg s.cells.toArray, .agg i.cells.toArray] w (RTold w (stepF s i)) := by
  have Kh1 := Lib.hid h1
  have Kh2 := Lib.hid h2
  have Kh3 := Lib.hid h3
  have Kk8 := Lib.hid k8
  have Khg := Lib.hid hg
  clear h1 h2 h3 k8 hg
  have hzs := zero_rstate
  have hz := zeros_len
  have hzl : (bts zeros).length = 32 := by rw [bts_len, zeros_len]
  have hbl : (bts i.block).length = 32 := by rw [bts_len, hi.block]
  have hol : (bts i.own).length = 32 := by rw [bts_len, hi.own]
  have hll : (bts s.locked).length = 32 := by rw [bts_len, hs.locked]
  have hvl : (bts s.valid).length = 32 := by rw [bts_len, hs.valid]
  have hib := hi.block
  have hio := hi.own
  have hsk := hs.locked
  have hcl := In.cells_len hi
  have hsl := St.cells_len hs
  go_enter Tryd.func11, Tryd.ntmps11
  go_upto_region 1 with fail
  have HS0 := Lib.hid (show Bk (((w.alloc (.cells s.cells.toArray 31)).alloc (.cells i.cells.toArray 36)).alloc (.cells St.zero.cells.toArray 31)) w.heap.size 31 s.cells.toArray from ((Bk.new w 31 s.cells.toArray).alloc _).alloc _)
  have HI0 := Lib.hid (show Bk (((w.alloc (.cells s.cells.toArray 31)).alloc (.cells i.cells.toArray 36)).alloc (.cells St.zero.cells.toArray 31)) (w.heap.size + 1) 36 i.cells.toArray from by have := (Bk.new (w.alloc (.cells s.cells.toArray 31)) 36 i.cells.toArray).alloc (.cells St.zero.cells.toArray 31); simpa using this)
  have HR0 := Lib.hid (show Bk (((w.alloc (.cells s.cells.toArray 31)).alloc (.cells i.cells.toArray 36)).alloc (.cells St.zero.cells.toArray 31)) (w.heap.size + 1 + 1) 31 St.zero.cells.toArray from by have := Bk.new ((w.alloc (.cells s.cells.toArray 31)).alloc (.cells i.cells.toArray 36)) 31 St.zero.cells.toArray; simpa using this)
  have HB0 := Lib.hid (show Below w.heap.size w (((w.alloc (.cells s.cells.toArray 31)).alloc (.cells i.cells.toArray 36)).alloc (.cells St.zero.cells.toArray 31)) from (by (first | assumption | (repeat (first | exact Below.refl _ _ | assumption | apply Below.drew | apply below_drewN | (refine Below.setCell ?_ (by (try simp) <;> omega) _) | (refine Below.alloc ?_ (by (try simp) <;> omega) _))))))
  obtain ⟨v0, hv0⟩ : ∃ v0, ((w.alloc (.cells s.cells.toArray 31)).alloc (.cells i.cells.toArray 36)).alloc (.cells St.zero.cells.toArray 31) = v0 := ⟨_, rfl⟩
  have hsz : v0.heap.size = w.heap.size + 1 + 1 + 1 := by rw [← hv0]; simp
  obtain ⟨gs, hgs⟩ : ∃ gs, w.heap.size = gs := ⟨_, rfl⟩
  rw [hv0] at HS0 HI0 HR0 HB0 ⊢
  rw [hgs] at HS0 HI0 HR0 HB0 hsz ⊢
  obtain ⟨gi, hgi⟩ : ∃ gi, gs + 1 = gi := ⟨_, rfl⟩
  rw [hgi] at HI0 HR0 hsz ⊢
  obtain ⟨gr, hgr⟩ : ∃ gr, gi + 1 = gr := ⟨_, rfl⟩
  rw [hgr] at HR0 hsz ⊢
  clear hv0 hzs
  obtain ⟨d0, d1, d2, d34, d35, d36⟩ := in_out HI0.out hi
  go_wp2_with (refine wpList_val (by rfl) (run_load_seg 23 _ (by with_reducible rfl) _ _ (by rfl) _ (by assumption) 32 (by assumption) _ hu_hash (by rfl) hi_hash) ?_)
  with_reducible refine (rempty_any i.block hi.block _).mono ?_
  rintro e v1 ⟨rfl, hb1⟩
  have HS1 := Lib.hid (HS0.out.below hb1 HS0.out.lt)
  have HI1 := Lib.hid (HI0.out.below hb1 HI0.out.lt)
  have HR1 := Lib.hid (HR0.out.below hb1 HR0.out.lt)
  have HB1 := Lib.hid (HB0.out.trans (hb1.mono (by omega)))
  have hz1 := hb1.size
  clear hb1 HS0 HI0 HR0 HB0 d0 d1 d2 d34 d35 d36
  obtain ⟨d0, d1, d2, d34, d35, d36⟩ := in_out HI1.out hi
  go_wp2_with (refine wpList_val (by rfl) (run_load_seg 23 _ (by with_reducible rfl) _ _ (by rfl) _ (by assumption) 32 (by assumption) _ hu_hash (by rfl) hi_hash) ?_)
  with_reducible refine (rempty_any i.own hi.own _).mono ?_
  rintro e w0 ⟨rfl, hb1⟩
  have HS0 := Lib.hid (HS1.out.below hb1 HS1.out.lt)
  have HI0 := Lib.hid (HI1.out.below hb1 HI1.out.lt)
  have HR0 := Lib.hid (HR1.out.below hb1 HR1.out.lt)
  have HB0 : Hid (Below gs w w0) := Lib.hid (HB1.out.trans (hb1.mono (by omega)))
  have hz0 : v0.heap.size ≤ w0.heap.size := Nat.le_trans hz1 hb1.size
  clear hb1 HS1 HI1 HR1 HB1 d0 d1 d2 d34 d35 d36 hz1
  obtain ⟨c0, c1, c2, c34, c35, c67, c68, c100, c101⟩ := st_out HS0.out hs
  obtain ⟨d0, d1, d2, d34, d35, d36⟩ := in_out HI0.out hi
  have h1 := Kh1.out
  have h2 := Kh2.out
  have h3 := Kh3.out
  have k8 := Kk8.out
  have hg := Khg.out
  rw [hg] at d35
  clear h1 h2 h3 k8 hg
  have h1 := Kh1.out
  have h2 := Kh2.out
  have h3 := Kh3.out
  have k8 := Kk8.out
  have hg := Khg.out
  have el : decide (i.round < 0) = false := by simpa using h1
  have em : decide (1048576 < i.round) = false := by simpa using h2
  have e4 : (s.step == 4) = false := by simpa using h3
  have en1 : (i.kind == 1) = false := by simp [k8]
  have en2 : (i.kind == 2) = false := by simp [k8]
  have en3 : (i.kind == 3) = false := by simp [k8]
  have en4 : (i.kind == 4) = false := by simp [k8]
  have en5 : (i.kind == 5) = false := by simp [k8]
  have en6 : (i.kind == 6) = false := by simp [k8]
  have en7 : (i.kind == 7) = false := by simp [k8]
  have en8 : (i.kind == 8) = true := by simp [k8]
  have en9 : (i.kind == 9) = false := by simp [k8]
  have en10 : (i.kind == 10) = false := by simp [k8]
  have en11 : (i.kind == 11) = false := by simp [k8]
  have en12 : (i.kind == 12) = false := by simp [k8]
  clear h1 h2 h3 k8 hg
  have hsr := HS0.out.all
  have hlr := St.cells_len (s := s) (hs)
  have HRR := HR0
  have HBB := HB0
  have HO := Lib.hid (show ROutAt w0 (gr + 1) (.slice none 0 0) none from rfl)
  go_wp2_with (first | (refine wpList_val (by rfl) (run_load_seg 31 _ (by with_reducible rfl) gs 0 (by rfl) _ (by assumption) 102 (by assumption) _ Tryd.underlying31 (by rfl) hi_rstate) ?_) | (refine wpList_puts (by rfl) 31 _ _ (by with_reducible rfl) gr 0 (by rfl) (St.cells s) (by rfl) 31 St.zero.cells (by exact HRR.out) 102 (by assumption) (by rw [St.cells_len St.zero_good]; omega) hi_rstate St.one_cells ?_; intro w7 hb7 hm7 hz7; rw [put_all (by rw [St.cells_len St.zero_good]; assumption)] at hb7; have HB7 := Lib.hid hb7; have HM7 := Lib.hid hm7; clear hb7 hm7))
  have h1 := Kh1.out
  have h2 := Kh2.out
  have h3 := Kh3.out
  have k8 := Kk8.out
  have hg := Khg.out
  refine bodyPost_ret (rstep_results (s := s) (hs) HB7.out (by rfl) (by rfl)) rfl ?_
  exact rstep_end (N := gr + 1) HO.out (by omega) (by omega) HM7.out (by rw [hgs]; exact HBB.out) (by first | (simp [stepF, nowF, lockF, lateF, prevF, precF, agreedF, beginOut, h1, h2, h3, k8, hg]; done) | (simp [stepF, nowF, lockF, lateF, prevF, precF, agreedF, beginOut, h1, h2, h3, k8, hg]; omega) | (simp [stepF, nowF, lockF, lateF, prevF, precF, agreedF, beginOut, h1, h2, h3, k8, hg]; intros; omega))

set_option maxRecDepth 100000 in
set_option maxHeartbeats 4000000 in
theorem rstepL_d8z (s : St) (i : In) (w : World) (hs : s.good) (hi : i.fits) (h1 : ¬ i.round < 0) (h2 : ¬ 1048576 < i.round) (h3 : ¬ s.step = 4) (k8 : i.kind = 8) (hg : i.good = true) (hbz : i.block = zeros) :
    Calls Tryd.prog 11 #[.agg s.cells.toArray, .agg i.cells.toArray] w (RTold w (stepF s i)) := by
  have Kh1 := Lib.hid h1
  have Kh2 := Lib.hid h2
  have Kh3 := Lib.hid h3
  have Kk8 := Lib.hid k8
  have Khg := Lib.hid hg
  have Khbz := Lib.hid hbz
  clear h1 h2 h3 k8 hg hbz
  have hzs := zero_rstate
  have hz := zeros_len
  have hzl : (bts zeros).length = 32 := by rw [bts_len, zeros_len]
  have hbl : (bts i.block).length = 32 := by rw [bts_len, hi.block]
  have hol : (bts i.own).length = 32 := by rw [bts_len, hi.own]
  have hll : (bts s.locked).length = 32 := by rw [bts_len, hs.locked]
  have hvl : (bts s.valid).length = 32 := by rw [bts_len, hs.valid]
  have hib := hi.block
  have hio := hi.own
  have hsk := hs.locked
  have hcl := In.cells_len hi
  have hsl := St.cells_len hs
  go_enter Tryd.func11, Tryd.ntmps11
  go_upto_region 1 with fail
  have HS0 := Lib.hid (show Bk (((w.alloc (.cells s.cells.toArray 31)).alloc (.cells i.cells.toArray 36)).alloc (.cells St.zero.cells.toArray 31)) w.heap.size 31 s.cells.toArray from ((Bk.new w 31 s.cells.toArray).alloc _).alloc _)
  have HI0 := Lib.hid (show Bk (((w.alloc (.cells s.cells.toArray 31)).alloc (.cells i.cells.toArray 36)).alloc (.cells St.zero.cells.toArray 31)) (w.heap.size + 1) 36 i.cells.toArray from by have := (Bk.new (w.alloc (.cells s.cells.toArray 31)) 36 i.cells.toArray).alloc (.cells St.zero.cells.toArray 31); simpa using this)
  have HR0 := Lib.hid (show Bk (((w.alloc (.cells s.cells.toArray 31)).alloc (.cells i.cells.toArray 36)).alloc (.cells St.zero.cells.toArray 31)) (w.heap.size + 1 + 1) 31 St.zero.cells.toArray from by have := Bk.new ((w.alloc (.cells s.cells.toArray 31)).alloc (.cells i.cells.toArray 36)) 31 St.zero.cells.toArray; simpa using this)
  have HB0 := Lib.hid (show Below w.heap.size w (((w.alloc (.cells s.cells.toArray 31)).alloc (.cells i.cells.toArray 36)).alloc (.cells St.zero.cells.toArray 31)) from (by (first | assumption | (repeat (first | exact Below.refl _ _ | assumption | apply Below.drew | apply below_drewN | (refine Below.setCell ?_ (by (try simp) <;> omega) _) | (refine Below.alloc ?_ (by (try simp) <;> omega) _))))))
  obtain ⟨v0, hv0⟩ : ∃ v0, ((w.alloc (.cells s.cells.toArray 31)).alloc (.cells i.cells.toArray 36)).alloc (.cells St.zero.cells.toArray 31) = v0 := ⟨_, rfl⟩
  have hsz : v0.heap.size = w.heap.size + 1 + 1 + 1 := by rw [← hv0]; simp
  obtain ⟨gs, hgs⟩ : ∃ gs, w.heap.size = gs := ⟨_, rfl⟩
  rw [hv0] at HS0 HI0 HR0 HB0 ⊢
  rw [hgs] at HS0 HI0 HR0 HB0 hsz ⊢
  obtain ⟨gi, hgi⟩ : ∃ gi, gs + 1 = gi := ⟨_, rfl⟩
  rw [hgi] at HI0 HR0 hsz ⊢
  obtain ⟨gr, hgr⟩ : ∃ gr, gi + 1 = gr := ⟨_, rfl⟩
  rw [hgr] at HR0 hsz ⊢
  clear hv0 hzs
  obtain ⟨d0, d1, d2, d34, d35, d36⟩ := in_out HI0.out hi
  go_wp2_with (refine wpList_val (by rfl) (run_load_seg 23 _ (by with_reducible rfl) _ _ (by rfl) _ (by assumption) 32 (by assumption) _ hu_hash (by rfl) hi_hash) ?_)
  with_reducible refine (rempty_any i.block hi.block _).mono ?_
  rintro e v1 ⟨rfl, hb1⟩
  have HS1 := Lib.hid (HS0.out.below hb1 HS0.out.lt)
  have HI1 := Lib.hid (HI0.out.below hb1 HI0.out.lt)
  have HR1 := Lib.hid (HR0.out.below hb1 HR0.out.lt)
  have HB1 := Lib.hid (HB0.out.trans (hb1.mono (by omega)))
  have hz1 := hb1.size
  clear hb1 HS0 HI0 HR0 HB0 d0 d1 d2 d34 d35 d36
  obtain ⟨d0, d1, d2, d34, d35, d36⟩ := in_out HI1.out hi
  go_wp2_with (refine wpList_val (by rfl) (run_load_seg 23 _ (by with_reducible rfl) _ _ (by rfl) _ (by assumption) 32 (by assumption) _ hu_hash (by rfl) hi_hash) ?_)
  with_reducible refine (rempty_any i.own hi.own _).mono ?_
  rintro e w0 ⟨rfl, hb1⟩
  have HS0 := Lib.hid (HS1.out.below hb1 HS1.out.lt)
  have HI0 := Lib.hid (HI1.out.below hb1 HI1.out.lt)
  have HR0 := Lib.hid (HR1.out.below hb1 HR1.out.lt)
  have HB0 : Hid (Below gs w w0) := Lib.hid (HB1.out.trans (hb1.mono (by omega)))
  have hz0 : v0.heap.size ≤ w0.heap.size := Nat.le_trans hz1 hb1.size
  clear hb1 HS1 HI1 HR1 HB1 d0 d1 d2 d34 d35 d36 hz1
  obtain ⟨c0, c1, c2, c34, c35, c67, c68, c100, c101⟩ := st_out HS0.out hs
  obtain ⟨d0, d1, d2, d34, d35, d36⟩ := in_out HI0.out hi
  have h1 := Kh1.out
  have h2 := Kh2.out
  have h3 := Kh3.out
  have k8 := Kk8.out
  have hg := Khg.out
  have hbz := Khbz.out
  rw [hg] at d35
  clear h1 h2 h3 k8 hg hbz
  have h1 := Kh1.out
  have h2 := Kh2.out
  have h3 := Kh3.out
  have k8 := Kk8.out
  have hg := Khg.out
  have hbz := Khbz.out
  have el : decide (i.round < 0) = false := by simpa using h1
  have em : decide (1048576 < i.round) = false := by simpa using h2
  have e4 : (s.step == 4) = false := by simpa using h3
  have en1 : (i.kind == 1) = false := by simp [k8]
  have en2 : (i.kind == 2) = false := by simp [k8]
  have en3 : (i.kind == 3) = false := by simp [k8]
  have en4 : (i.kind == 4) = false := by simp [k8]
  have en5 : (i.kind == 5) = false := by simp [k8]
  have en6 : (i.kind == 6) = false := by simp [k8]
  have en7 : (i.kind == 7) = false := by simp [k8]
  have en8 : (i.kind == 8) = true := by simp [k8]
  have en9 : (i.kind == 9) = false := by simp [k8]
  have en10 : (i.kind == 10) = false := by simp [k8]
  have en11 : (i.kind == 11) = false := by simp [k8]
  have en12 : (i.kind == 12) = false := by simp [k8]
  have eb : (i.block == zeros) = true := by simp [hbz]
  clear h1 h2 h3 k8 hg hbz
  have hsr := HS0.out.all
  have hlr := St.cells_len (s := s) (hs)
  have HRR := HR0
  have HBB := HB0
  have HO := Lib.hid (show ROutAt w0 (gr + 1) (.slice none 0 0) none from rfl)
  go_wp2_with (first | (refine wpList_val (by rfl) (run_load_seg 31 _ (by with_reducible rfl) gs 0 (by rfl) _ (by assumption) 102 (by assumption) _ Tryd.underlying31 (by rfl) hi_rstate) ?_) | (refine wpList_puts (by rfl) 31 _ _ (by with_reducible rfl) gr 0 (by rfl) (St.cells s) (by rfl) 31 St.zero.cells (by exact HRR.out) 102 (by assumption) (by rw [St.cells_len St.zero_good]; omega) hi_rstate St.one_cells ?_; intro w7 hb7 hm7 hz7; rw [put_all (by rw [St.cells_len St.zero_good]; assumption)] at hb7; have HB7 := Lib.hid hb7; have HM7 := Lib.hid hm7; clear hb7 hm7))
  have h1 := Kh1.out
  have h2 := Kh2.out
  have h3 := Kh3.out
  have k8 := Kk8.out
  have hg := Khg.out
  have hbz := Khbz.out
  refine bodyPost_ret (rstep_results (s := s) (hs) HB7.out (by rfl) (by rfl)) rfl ?_
  exact rstep_end (N := gr + 1) HO.out (by omega) (by omega) HM7.out (by rw [hgs]; exact HBB.out) (by first | (simp [stepF, nowF, lockF, lateF, prevF, precF, agreedF, beginOut, h1, h2, h3, k8, hg, hbz]; done) | (simp [stepF, nowF, lockF, lateF, prevF, precF, agreedF, beginOut, h1, h2, h3, k8, hg, hbz]; omega) | (simp [stepF, nowF, lockF, lateF, prevF, precF, agreedF, beginOut, h1, h2, h3, k8, hg, hbz]; intros; omega))
end Go.Proofs.YtlhnhdkbfkbafaaDoor

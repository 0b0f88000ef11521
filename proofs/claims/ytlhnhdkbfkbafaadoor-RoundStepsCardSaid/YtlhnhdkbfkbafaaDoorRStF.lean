/- What this text proves: parts of the contract of the reference's step of a height. The conditions are that hashes have 32 bytes. -/
import Derived.Test.YtlhnhdkbfkbafaaDoorRefBase
namespace Go.Proofs.YtlhnhdkbfkbafaaDoor
open Go.RowKit
set_option linter.unusedVariables false
set_option linter.unusedSimpArgs false

set_option maxRecDepth 100000 in
set_option maxHeartbeats 4000000 in
theorem rstepL_l10 (s : St) (i : In) (w : World) (hs : s.good) (hi : i.fits) (h1 : ¬ i.round < 0) (h2 : ¬ 1048576 < i.round) (h3 : ¬ s.step = 4) (k10 : i.kind = 10) (hr : i.round = s.round) (g0 : s.step = 1) :
    Calls Tryd.prog 11 #[.agg s.cells.toArray, .agg i.cells.toArray] w (RTold w (stepF s i)) := by
  have Kh1 := Lib.hid h1
  have Kh2 := Lib.hid h2
  have Kh3 := Lib.hid h3
  have Kk10 := Lib.hid k10
  have Khr := Lib.hid hr
  have Kg0 := Lib.hid g0
  clear h1 h2 h3 k10 hr g0
  have hzs := zero_rstate
  have hz := zeros_len
  have hzl : (bts zeros).length = 32 := by rw [bts_len, zeros_len]
  have hbl : (bts i.block).length = 32 := by rw [bts_len, hi.block]
  have hol : (bts i.own).length = 32 := by rw [bts_len, hi.own]
  have hll : (bts s.locked).length = 32 := by rw [bts_len, hs.locked]
  have hvl : (bts s.valid).length = 32 := by rw [bts_len, hs.valid]
  have hib := hi.block
  have hio := hi.own
  have hsk := hs.locked
  have hcl := In.cells_len hi
  have hsl := St.cells_len hs
  go_enter Tryd.func11, Tryd.ntmps11
  go_upto_region 1 with fail
  have HS0 := Lib.hid (show Bk (((w.alloc (.cells s.cells.toArray 31)).alloc (.cells i.cells.toArray 36)).alloc (.cells St.zero.cells.toArray 31)) w.heap.size 31 s.cells.toArray from ((Bk.new w 31 s.cells.toArray).alloc _).alloc _)
  have HI0 := Lib.hid (show Bk (((w.alloc (.cells s.cells.toArray 31)).alloc (.cells i.cells.toArray 36)).alloc (.cells St.zero.cells.toArray 31)) (w.heap.size + 1) 36 i.cells.toArray from by have := (Bk.new (w.alloc (.cells s.cells.toArray 31)) 36 i.cells.toArray).alloc (.cells St.zero.cells.toArray 31); simpa using this)
  have HR0 := Lib.hid (show Bk (((w.alloc (.cells s.cells.toArray 31)).alloc (.cells i.cells.toArray 36)).alloc (.cells St.zero.cells.toArray 31)) (w.heap.size + 1 + 1) 31 St.zero.cells.toArray from by have := Bk.new ((w.alloc (.cells s.cells.toArray 31)).alloc (.cells i.cells.toArray 36)) 31 St.zero.cells.toArray; simpa using this)
  have HB0 := Lib.hid (show Below w.heap.size w (((w.alloc (.cells s.cells.toArray 31)).alloc (.cells i.cells.toArray 36)).alloc (.cells St.zero.cells.toArray 31)) from (by (first | assumption | (repeat (first | exact Below.refl _ _ | assumption | apply Below.drew | apply below_drewN | (refine Below.setCell ?_ (by (try simp) <;> omega) _) | (refine Below.alloc ?_ (by (try simp) <;> omega) _))))))
  obtain ⟨v0, hv0⟩ : ∃ v0, ((w.alloc (.cells s.cells.toArray 31)).alloc (.cells i.cells.toArray 36)).alloc (.cells St.zero.cells.toArray 31) = v0 := ⟨_, rfl⟩
  have hsz : v0.heap.size = w.heap.size + 1 + 1 + 1 := by rw [← hv0]; simp
  obtain ⟨gs, hgs⟩ : ∃ gs, w.heap.size = gs := ⟨_, rfl⟩
  rw [hv0] at HS0 HI0 HR0 HB0 ⊢
  rw [hgs] at HS0 HI0 HR0 HB0 hsz ⊢
  obtain ⟨gi, hgi⟩ : ∃ gi, gs + 1 = gi := ⟨_, rfl⟩
  rw [hgi] at HI0 HR0 hsz ⊢
  obtain ⟨gr, hgr⟩ : ∃ gr, gi + 1 = gr := ⟨_, rfl⟩
  rw [hgr] at HR0 hsz ⊢
  clear hv0 hzs
  obtain ⟨d0, d1, d2, d34, d35, d36⟩ := in_out HI0.out hi
  go_wp2_with (refine wpList_val (by rfl) (run_load_seg 23 _ (by with_reducible rfl) _ _ (by rfl) _ (by assumption) 32 (by assumption) _ hu_hash (by rfl) hi_hash) ?_)
  with_reducible refine (rempty_any i.block hi.block _).mono ?_
  rintro e v1 ⟨rfl, hb1⟩
  have HS1 := Lib.hid (HS0.out.below hb1 HS0.out.lt)
  have HI1 := Lib.hid (HI0.out.below hb1 HI0.out.lt)
  have HR1 := Lib.hid (HR0.out.below hb1 HR0.out.lt)
  have HB1 := Lib.hid (HB0.out.trans (hb1.mono (by omega)))
  have hz1 := hb1.size
  clear hb1 HS0 HI0 HR0 HB0 d0 d1 d2 d34 d35 d36
  obtain ⟨d0, d1, d2, d34, d35, d36⟩ := in_out HI1.out hi
  go_wp2_with (refine wpList_val (by rfl) (run_load_seg 23 _ (by with_reducible rfl) _ _ (by rfl) _ (by assumption) 32 (by assumption) _ hu_hash (by rfl) hi_hash) ?_)
  with_reducible refine (rempty_any i.own hi.own _).mono ?_
  rintro e w0 ⟨rfl, hb1⟩
  have HS0 := Lib.hid (HS1.out.below hb1 HS1.out.lt)
  have HI0 := Lib.hid (HI1.out.below hb1 HI1.out.lt)
  have HR0 := Lib.hid (HR1.out.below hb1 HR1.out.lt)
  have HB0 : Hid (Below gs w w0) := Lib.hid (HB1.out.trans (hb1.mono (by omega)))
  have hz0 : v0.heap.size ≤ w0.heap.size := Nat.le_trans hz1 hb1.size
  clear hb1 HS1 HI1 HR1 HB1 d0 d1 d2 d34 d35 d36 hz1
  cases hg : i.good with
  | true =>
    obtain ⟨c0, c1, c2, c34, c35, c67, c68, c100, c101⟩ := st_out HS0.out hs
    obtain ⟨d0, d1, d2, d34, d35, d36⟩ := in_out HI0.out hi
    rw [hg] at d35
    have h1 := Kh1.out
    have h2 := Kh2.out
    have h3 := Kh3.out
    have k10 := Kk10.out
    have hr := Khr.out
    have g0 := Kg0.out
    have el : decide (i.round < 0) = false := by simpa using h1
    have em : decide (1048576 < i.round) = false := by simpa using h2
    have e4 : (s.step == 4) = false := by simpa using h3
    have en1 : (i.kind == 1) = false := by simp [k10]
    have en2 : (i.kind == 2) = false := by simp [k10]
    have en3 : (i.kind == 3) = false := by simp [k10]
    have en4 : (i.kind == 4) = false := by simp [k10]
    have en5 : (i.kind == 5) = false := by simp [k10]
    have en6 : (i.kind == 6) = false := by simp [k10]
    have en7 : (i.kind == 7) = false := by simp [k10]
    have en8 : (i.kind == 8) = false := by simp [k10]
    have en9 : (i.kind == 9) = false := by simp [k10]
    have en10 : (i.kind == 10) = true := by simp [k10]
    have en11 : (i.kind == 11) = false := by simp [k10]
    have en12 : (i.kind == 12) = false := by simp [k10]
    have er : (i.round == s.round) = true := by simp [hr]
    have f0 : (s.step == 1) = true := by simpa using g0
    clear h1 h2 h3 k10 hr g0
    have hsr := HS0.out.all
    go_wp2_with (first | (refine wpList_val (by rfl) (run_load_seg 31 _ (by with_reducible rfl) gs 0 (by rfl) _ (by assumption) 102 (by assumption) _ Tryd.underlying31 (by rfl) hi_rstate) ?_) | (refine wpList_val (by rfl) (run_build_at 23 _ (by with_reducible rfl) (bts zeros) (by exact made_noneR)) ?_))
    with_reducible refine (rvoted_any s hs i.round zeros hz false _).mono ?_
    rintro e w9 ⟨v, rfl, ho, hb3⟩
    have HR9 := Lib.hid (HR0.out.below hb3 HR0.out.lt)
    have HB9 : Hid (Below gs w w9) := Lib.hid (HB0.out.trans (hb3.mono (hgs ▸ HB0.out.size)))
    clear hsr hb3
    clear c0 c1 c2 c34 c35 c67 c68 c100 c101 d0 d1 d2 d34 d35 d36
    have h1 := Kh1.out
    have h2 := Kh2.out
    have h3 := Kh3.out
    have k10 := Kk10.out
    have hr := Khr.out
    have g0 := Kg0.out
    clear h1 h2 h3 k10 hr g0
    have hsr := HR9.out.all
    have hlr := St.cells_len (s := {s with step := 2}) (⟨hs.locked, hs.valid, hs.block⟩)
    have HRR := HR9
    have HBB := HB9
    have HO := Lib.hid ho
    go_wp2_with (first | (refine wpList_val (by rfl) (run_load_seg 31 _ (by with_reducible rfl) gs 0 (by rfl) _ (by assumption) 102 (by assumption) _ Tryd.underlying31 (by rfl) hi_rstate) ?_) | (refine wpList_puts (by rfl) 31 _ _ (by with_reducible rfl) gr 0 (by rfl) (St.cells {s with step := 2}) (by rfl) 31 St.zero.cells (by exact HRR.out) 102 (by assumption) (by rw [St.cells_len St.zero_good]; omega) hi_rstate St.one_cells ?_; intro w7 hb7 hm7 hz7; rw [put_all (by rw [St.cells_len St.zero_good]; assumption)] at hb7; have HB7 := Lib.hid hb7; have HM7 := Lib.hid hm7; clear hb7 hm7))
    have h1 := Kh1.out
    have h2 := Kh2.out
    have h3 := Kh3.out
    have k10 := Kk10.out
    have hr := Khr.out
    have g0 := Kg0.out
    refine bodyPost_ret (rstep_results (s := {s with step := 2}) (⟨hs.locked, hs.valid, hs.block⟩) HB7.out (by rfl) (by rfl)) rfl ?_
    exact rstep_end (N := w0.heap.size) HO.out (by omega) (by omega) HM7.out (by rw [hgs]; exact HBB.out) (by first | (simp [stepF, nowF, lockF, lateF, prevF, precF, agreedF, beginOut, h1, h2, h3, k10, hr, g0]; done) | (simp [stepF, nowF, lockF, lateF, prevF, precF, agreedF, beginOut, h1, h2, h3, k10, hr, g0]; omega) | (simp [stepF, nowF, lockF, lateF, prevF, precF, agreedF, beginOut, h1, h2, h3, k10, hr, g0]; intros; omega))
  | false =>
    obtain ⟨c0, c1, c2, c34, c35, c67, c68, c100, c101⟩ := st_out HS0.out hs
    obtain ⟨d0, d1, d2, d34, d35, d36⟩ := in_out HI0.out hi
    rw [hg] at d35
    have h1 := Kh1.out
    have h2 := Kh2.out
    have h3 := Kh3.out
    have k10 := Kk10.out
    have hr := Khr.out
    have g0 := Kg0.out
    have el : decide (i.round < 0) = false := by simpa using h1
    have em : decide (1048576 < i.round) = false := by simpa using h2
    have e4 : (s.step == 4) = false := by simpa using h3
    have en1 : (i.kind == 1) = false := by simp [k10]
    have en2 : (i.kind == 2) = false := by simp [k10]
    have en3 : (i.kind == 3) = false := by simp [k10]
    have en4 : (i.kind == 4) = false := by simp [k10]
    have en5 : (i.kind == 5) = false := by simp [k10]
    have en6 : (i.kind == 6) = false := by simp [k10]
    have en7 : (i.kind == 7) = false := by simp [k10]
    have en8 : (i.kind == 8) = false := by simp [k10]
    have en9 : (i.kind == 9) = false := by simp [k10]
    have en10 : (i.kind == 10) = true := by simp [k10]
    have en11 : (i.kind == 11) = false := by simp [k10]
    have en12 : (i.kind == 12) = false := by simp [k10]
    have er : (i.round == s.round) = true := by simp [hr]
    have f0 : (s.step == 1) = true := by simpa using g0
    clear h1 h2 h3 k10 hr g0
    have hsr := HS0.out.all
    go_wp2_with (first | (refine wpList_val (by rfl) (run_load_seg 31 _ (by with_reducible rfl) gs 0 (by rfl) _ (by assumption) 102 (by assumption) _ Tryd.underlying31 (by rfl) hi_rstate) ?_) | (refine wpList_val (by rfl) (run_build_at 23 _ (by with_reducible rfl) (bts zeros) (by exact made_noneR)) ?_))
    with_reducible refine (rvoted_any s hs i.round zeros hz false _).mono ?_
    rintro e w9 ⟨v, rfl, ho, hb3⟩
    have HR9 := Lib.hid (HR0.out.below hb3 HR0.out.lt)
    have HB9 : Hid (Below gs w w9) := Lib.hid (HB0.out.trans (hb3.mono (hgs ▸ HB0.out.size)))
    clear hsr hb3
    clear c0 c1 c2 c34 c35 c67 c68 c100 c101 d0 d1 d2 d34 d35 d36
    have h1 := Kh1.out
    have h2 := Kh2.out
    have h3 := Kh3.out
    have k10 := Kk10.out
    have hr := Khr.out
    have g0 := Kg0.out
    clear h1 h2 h3 k10 hr g0
    have hsr := HR9.out.all
    have hlr := St.cells_len (s := {s with step := 2}) (⟨hs.locked, hs.valid, hs.block⟩)
    have HRR := HR9
    have HBB := HB9
    have HO := Lib.hid ho
    go_wp2_with (first | (refine wpList_val (by rfl) (run_load_seg 31 _ (by with_reducible rfl) gs 0 (by rfl) _ (by assumption) 102 (by assumption) _ Tryd.underlying31 (by rfl) hi_rstate) ?_) | (refine wpList_puts (by rfl) 31 _ _ (by with_reducible rfl) gr 0 (by rfl) (St.cells {s with step := 2}) (by rfl) 31 St.zero.cells (by exact HRR.out) 102 (by assumption) (by rw [St.cells_len St.zero_good]; omega) hi_rstate St.one_cells ?_; intro w7 hb7 hm7 hz7; rw [put_all (by rw [St.cells_len St.zero_good]; assumption)] at hb7; have HB7 := Lib.hid hb7; have HM7 := Lib.hid hm7; clear hb7 hm7))
    have h1 := Kh1.out
    have h2 := Kh2.out
    have h3 := Kh3.out
    have k10 := Kk10.out
    have hr := Khr.out
    have g0 := Kg0.out
    refine bodyPost_ret (rstep_results (s := {s with step := 2}) (⟨hs.locked, hs.valid, hs.block⟩) HB7.out (by rfl) (by rfl)) rfl ?_
    exact rstep_end (N := w0.heap.size) HO.out (by omega) (by omega) HM7.out (by rw [hgs]; exact HBB.out) (by first | (simp [stepF, nowF, lockF, lateF, prevF, precF, agreedF, beginOut, h1, h2, h3, k10, hr, g0]; done) | (simp [stepF, nowF, lockF, lateF, prevF, precF, agreedF, beginOut, h1, h2, h3, k10, hr, g0]; omega) | (simp [stepF, nowF, lockF, lateF, prevF, precF, agreedF, beginOut, h1, h2, h3, k10, hr, g0]; intros; omega))

set_option maxRecDepth 100000 in
set_option maxHeartbeats 4000000 in
theorem rstepL_l2a (s : St) (i : In) (w : World) (hs : s.good) (hi : i.fits) (h1 : ¬ i.round < 0) (h2 : ¬ 1048576 < i.round) (h3 : ¬ s.step = 4) (k2 : i.kind = 2) (hr : i.round = s.round) (g0 : s.step = 1) (hg : i.good = false) :
    Calls Tryd.prog 11 #[.agg s.cells.toArray, .agg i.cells.toArray] w (RTold w (stepF s i)) := by
  have Kh1 := Lib.hid h1
  have Kh2 := Lib.hid h2
  have Kh3 := Lib.hid h3
  have Kk2 := Lib.hid k2
  have Khr := Lib.hid hr
  have Kg0 := Lib.hid g0
  have Khg := Lib.hid hg
  clear h1 h2 h3 k2 hr g0 hg
  have hzs := zero_rstate
  have hz := zeros_len
  have hzl : (bts zeros).length = 32 := by rw [bts_len, zeros_len]
  have hbl : (bts i.block).length = 32 := by rw [bts_len, hi.block]
  have hol : (bts i.own).length = 32 := by rw [bts_len, hi.own]
  have hll : (bts s.locked).length = 32 := by rw [bts_len, hs.locked]
  have hvl : (bts s.valid).length = 32 := by rw [bts_len, hs.valid]
  have hib := hi.block
  have hio := hi.own
  have hsk := hs.locked
  have hcl := In.cells_len hi
  have hsl := St.cells_len hs
  go_enter Tryd.func11, Tryd.ntmps11
  go_upto_region 1 with fail
  have HS0 := Lib.hid (show Bk (((w.alloc (.cells s.cells.toArray 31)).alloc (.cells i.cells.toArray 36)).alloc (.cells St.zero.cells.toArray 31)) w.heap.size 31 s.cells.toArray from ((Bk.new w 31 s.cells.toArray).alloc _).alloc _)
  have HI0 := Lib.hid (show Bk (((w.alloc (.cells s.cells.toArray 31)).alloc (.cells i.cells.toArray 36)).alloc (.cells St.zero.cells.toArray 31)) (w.heap.size + 1) 36 i.cells.toArray from by have := (Bk.new (w.alloc (.cells s.cells.toArray 31)) 36 i.cells.toArray).alloc (.cells St.zero.cells.toArray 31); simpa using this)
  have HR0 := Lib.hid (show Bk (((w.alloc (.cells s.cells.toArray 31)).alloc (.cells i.cells.toArray 36)).alloc (.cells St.zero.cells.toArray 31)) (w.heap.size + 1 + 1) 31 St.zero.cells.toArray from by have := Bk.new ((w.alloc (.cells s.cells.toArray 31)).alloc (.cells i.cells.toArray 36)) 31 St.zero.cells.toArray; simpa using this)
  have HB0 := Lib.hid (show Below w.heap.size w (((w.alloc (.cells s.cells.toArray 31)).alloc (.cells i.cells.toArray 36)).alloc (.cells St.zero.cells.toArray 31)) from (by (first | assumption | (repeat (first | exact Below.refl _ _ | assumption | apply Below.drew | apply below_drewN | (refine Below.setCell ?_ (by (try simp) <;> omega) _) | (refine Below.alloc ?_ (by (try simp) <;> omega) _))))))
  obtain ⟨v0, hv0⟩ : ∃ v0, ((w.alloc (.cells s.cells.toArray 31)).alloc (.cells i.cells.toArray 36)).alloc (.cells St.zero.cells.toArray 31) = v0 := ⟨_, rfl⟩
  have hsz : v0.heap.size = w.heap.size + 1 + 1 + 1 := by rw [← hv0]; simp
  obtain ⟨gs, hgs⟩ : ∃ gs, w.heap.size = gs := ⟨_, rfl⟩
  rw [hv0] at HS0 HI0 HR0 HB0 ⊢
  rw [hgs] at HS0 HI0 HR0 HB0 hsz ⊢
  obtain ⟨gi, hgi⟩ : ∃ gi, gs + 1 = gi := ⟨_, rfl⟩
  rw [hgi] at HI0 HR0 hsz ⊢
  obtain ⟨gr, hgr⟩ : ∃ gr, gi + 1 = gr := ⟨_, rfl⟩
  rw [hgr] at HR0 hsz ⊢
  clear hv0 hzs
  obtain ⟨d0, d1, d2, d34, d35, d36⟩ := in_out HI0.out hi
  go_wp2_with (refine wpList_val (by rfl) (run_load_seg 23 _ (by with_reducible rfl) _ _ (by rfl) _ (by assumption) 32 (by assumption) _ hu_hash (by rfl) hi_hash) ?_)
  with_reducible refine (rempty_any i.block hi.block _).mono ?_
  rintro e v1 ⟨rfl, hb1⟩
  have HS1 := Lib.hid (HS0.out.below hb1 HS0.out.lt)
  have HI1 := Lib.hid (HI0.out.below hb1 HI0.out.lt)
  have HR1 := Lib.hid (HR0.out.below hb1 HR0.out.lt)
  have HB1 := Lib.hid (HB0.out.trans (hb1.mono (by omega)))
  have hz1 := hb1.size
  clear hb1 HS0 HI0 HR0 HB0 d0 d1 d2 d34 d35 d36
  obtain ⟨d0, d1, d2, d34, d35, d36⟩ := in_out HI1.out hi
  go_wp2_with (refine wpList_val (by rfl) (run_load_seg 23 _ (by with_reducible rfl) _ _ (by rfl) _ (by assumption) 32 (by assumption) _ hu_hash (by rfl) hi_hash) ?_)
  with_reducible refine (rempty_any i.own hi.own _).mono ?_
  rintro e w0 ⟨rfl, hb1⟩
  have HS0 := Lib.hid (HS1.out.below hb1 HS1.out.lt)
  have HI0 := Lib.hid (HI1.out.below hb1 HI1.out.lt)
  have HR0 := Lib.hid (HR1.out.below hb1 HR1.out.lt)
  have HB0 : Hid (Below gs w w0) := Lib.hid (HB1.out.trans (hb1.mono (by omega)))
  have hz0 : v0.heap.size ≤ w0.heap.size := Nat.le_trans hz1 hb1.size
  clear hb1 HS1 HI1 HR1 HB1 d0 d1 d2 d34 d35 d36 hz1
  obtain ⟨c0, c1, c2, c34, c35, c67, c68, c100, c101⟩ := st_out HS0.out hs
  obtain ⟨d0, d1, d2, d34, d35, d36⟩ := in_out HI0.out hi
  have h1 := Kh1.out
  have h2 := Kh2.out
  have h3 := Kh3.out
  have k2 := Kk2.out
  have hr := Khr.out
  have g0 := Kg0.out
  have hg := Khg.out
  rw [hg] at d35
  clear h1 h2 h3 k2 hr g0 hg
  have h1 := Kh1.out
  have h2 := Kh2.out
  have h3 := Kh3.out
  have k2 := Kk2.out
  have hr := Khr.out
  have g0 := Kg0.out
  have hg := Khg.out
  have el : decide (i.round < 0) = false := by simpa using h1
  have em : decide (1048576 < i.round) = false := by simpa using h2
  have e4 : (s.step == 4) = false := by simpa using h3
  have en1 : (i.kind == 1) = false := by simp [k2]
  have en2 : (i.kind == 2) = true := by simp [k2]
  have en3 : (i.kind == 3) = false := by simp [k2]
  have en4 : (i.kind == 4) = false := by simp [k2]
  have en5 : (i.kind == 5) = false := by simp [k2]
  have en6 : (i.kind == 6) = false := by simp [k2]
  have en7 : (i.kind == 7) = false := by simp [k2]
  have en8 : (i.kind == 8) = false := by simp [k2]
  have en9 : (i.kind == 9) = false := by simp [k2]
  have en10 : (i.kind == 10) = false := by simp [k2]
  have en11 : (i.kind == 11) = false := by simp [k2]
  have en12 : (i.kind == 12) = false := by simp [k2]
  have er : (i.round == s.round) = true := by simp [hr]
  have f0 : (s.step == 1) = true := by simpa using g0
  clear h1 h2 h3 k2 hr g0 hg
  go_upto_region 21 with (first | (refine wpList_val (by rfl) (run_load_seg 23 _ (by with_reducible rfl) _ _ (by rfl) _ (by assumption) 32 (by assumption) _ hu_hash (by rfl) hi_hash) ?_))
  clear c0 c1 c2 c34 c35 c67 c68 c100 c101 d0 d1 d2 d34 d35 d36
  obtain ⟨N, hN⟩ : ∃ N, w0.drew.heap.size = N := ⟨_, rfl⟩
  have HW : Hid (∀ W, Below w0.drew.heap.size w0.drew W → Bk W gs 31 (St.cells s).toArray ∧ Bk W gi 36 i.cells.toArray ∧ Bk W gr 31 St.zero.cells.toArray) := Lib.hid (fun W h => ⟨HS0.out.drew.below h (HS0.out.drew.lt), HI0.out.drew.below h (HI0.out.drew.lt), HR0.out.drew.below h (HR0.out.drew.lt)⟩)
  have hgx : (s : St).good := hs
  have hsl1 := St.cells_len (s := s) hgx
  have hbl1 : (bts (s : St).valid).length = 32 := by rw [bts_len, hgx.valid]
  have hkl1 : (bts (s : St).locked).length = 32 := by rw [bts_len, hgx.locked]
  refine wp_region_each_tail 20 (lstV [fun v _ => v = .agg (St.cells s).toArray, fun v _ => v = .int .i64 i.round, fun v _ => v = .pointer (some ⟨gi, 2, none⟩), fun v _ => v = .agg (bts i.block).toArray, fun v _ => v = .bool false, fun v _ => v = .bool false, fun v _ => v = undef, fun v _ => v = undef, fun v _ => v = undef, fun v _ => v = undef, fun v _ => v = undef, fun v _ => v = undef, fun v _ => v = undef, fun v _ => v = undef, fun v _ => v = undef, fun v _ => v = undef, fun v _ => v = .bool false, fun v W => ∃ u, v = .tuple #[.agg (St.cells {s with step := 2}).toArray, u] ∧ ROutAt W N u (some ⟨2, i.round, if (false : Bool) = true then i.block else zeros, 0⟩), fun v _ => v = .agg (St.cells {s with step := 2}).toArray, fun v W => ROutAt W N v (some ⟨2, i.round, if (false : Bool) = true then i.block else zeros, 0⟩)]) (by kernel_rfl) (by kernel_rfl) (lstV_on (by repeat' (first | exact forall_nil | refine forall_cons ?_ ?_ | exact stays_rout _ _ | exact stays_tup _ _ _ | exact stays_eq _))) ?turns ?fin
  case turns =>
    refine ⟨fun a W pre => ?_, fun a W pre => ?_, fun a W pre => ?_, fun a W pre => ?_, fun a W pre => ?_, fun a W pre => ?_, fun a W pre => ?_, fun a W pre => ?_, fun a W pre => ?_, fun a W pre => ?_, fun a W pre => ?_, fun a W pre => ?_, fun a W pre => ?_, fun a W pre => ?_, fun a W pre => ?_, fun a W pre => ?_, fun a W pre => ?_, fun a W pre => ?_, fun a W pre => ?_, fun a W pre => ?_, trivial⟩
    · refine .inl ?_
      have e2 : a.eval (.tmp 2) = .pointer (some ⟨gs, 0, none⟩) := pre.was 2 (by kernel_rfl) rfl
      have q2 := e2
      rw [Act.eval, Array.getD_eq_getD_getElem?] at q2
      exact does_val (want_none rfl) (run_load_seg 31 _ rfl gs 0 e2 (St.cells s) (HW.out W pre.b).1.all 102 hsl1 _ Tryd.underlying31 rfl hi_rstate) rfl
    · refine .inl ?_
      have e6 : a.eval (.tmp 6) = .int .i64 i.round := pre.was 6 (by kernel_rfl) rfl
      have q6 := e6
      rw [Act.eval, Array.getD_eq_getD_getElem?] at q6
      exact does_val (want_none rfl) (by go_simp) rfl
    · refine .inl ?_
      have e3 : a.eval (.tmp 3) = .pointer (some ⟨gi, 0, none⟩) := pre.was 3 (by kernel_rfl) rfl
      have q3 := e3
      rw [Act.eval, Array.getD_eq_getD_getElem?] at q3
      exact does_val (want_none rfl) (by go_simp) rfl
    · refine .inl ?_
      have e83 : a.eval (.tmp 83) = .pointer (some ⟨gi, 2, none⟩) := pre.val 2 83 (by kernel_rfl) (by kernel_rfl)
      have q83 := e83
      rw [Act.eval, Array.getD_eq_getD_getElem?] at q83
      exact does_val (want_none rfl) (run_load_seg 23 _ rfl gi 2 e83 (bts i.block) ((in_out (HW.out W pre.b).2.1 hi).2.2.1) 32 hbl _ hu_hash rfl hi_hash) rfl
    · refine .inl ?_
      have e9 : a.eval (.tmp 9) = .bool false := pre.was 9 (by kernel_rfl) rfl
      have q9 := e9
      rw [Act.eval, Array.getD_eq_getD_getElem?] at q9
      exact does_val (want_none rfl) (by go_simp) rfl
    · refine .inl ?_
      have e85 : a.eval (.tmp 85) = .bool false := pre.val 4 85 (by kernel_rfl) (by kernel_rfl)
      have q85 := e85
      rw [Act.eval, Array.getD_eq_getD_getElem?] at q85
      exact does_val (want_none rfl) (by go_simp) rfl
    · have hgd : a.tmps.getD 86 undef = .bool false := pre.val 5 86 (by kernel_rfl) (by kernel_rfl)
      have hgs : 86 < a.tmps.size := by rw [pre.size]; first | (simp; done) | (show 86 < 301; decide)
      exact .inr ⟨skip_bool rfl (by kernel_rfl) hgs hgd, rfl⟩
    · have hgd : a.tmps.getD 86 undef = .bool false := pre.val 5 86 (by kernel_rfl) (by kernel_rfl)
      have hgs : 86 < a.tmps.size := by rw [pre.size]; first | (simp; done) | (show 86 < 301; decide)
      exact .inr ⟨skip_bool rfl (by kernel_rfl) hgs hgd, rfl⟩
    · have hgd : a.tmps.getD 86 undef = .bool false := pre.val 5 86 (by kernel_rfl) (by kernel_rfl)
      have hgs : 86 < a.tmps.size := by rw [pre.size]; first | (simp; done) | (show 86 < 301; decide)
      exact .inr ⟨skip_bool rfl (by kernel_rfl) hgs hgd, rfl⟩
    · have hgd : a.tmps.getD 86 undef = .bool false := pre.val 5 86 (by kernel_rfl) (by kernel_rfl)
      have hgs : 86 < a.tmps.size := by rw [pre.size]; first | (simp; done) | (show 86 < 301; decide)
      exact .inr ⟨skip_bool rfl (by kernel_rfl) hgs hgd, rfl⟩
    · have hgd : a.tmps.getD 90 undef = undef := pre.val 9 90 (by kernel_rfl) (by kernel_rfl)
      have hgs : 90 < a.tmps.size := by rw [pre.size]; first | (simp; done) | (show 90 < 301; decide)
      exact .inr ⟨skip_undef rfl (by kernel_rfl) hgs hgd, rfl⟩
    · have hgd : a.tmps.getD 90 undef = undef := pre.val 9 90 (by kernel_rfl) (by kernel_rfl)
      have hgs : 90 < a.tmps.size := by rw [pre.size]; first | (simp; done) | (show 90 < 301; decide)
      exact .inr ⟨skip_undef rfl (by kernel_rfl) hgs hgd, rfl⟩
    · have hgd : a.tmps.getD 90 undef = undef := pre.val 9 90 (by kernel_rfl) (by kernel_rfl)
      have hgs : 90 < a.tmps.size := by rw [pre.size]; first | (simp; done) | (show 90 < 301; decide)
      exact .inr ⟨skip_undef rfl (by kernel_rfl) hgs hgd, rfl⟩
    · have hgd : a.tmps.getD 90 undef = undef := pre.val 9 90 (by kernel_rfl) (by kernel_rfl)
      have hgs : 90 < a.tmps.size := by rw [pre.size]; first | (simp; done) | (show 90 < 301; decide)
      exact .inr ⟨skip_undef rfl (by kernel_rfl) hgs hgd, rfl⟩
    · have hgd : a.tmps.getD 90 undef = undef := pre.val 9 90 (by kernel_rfl) (by kernel_rfl)
      have hgs : 90 < a.tmps.size := by rw [pre.size]; first | (simp; done) | (show 90 < 301; decide)
      exact .inr ⟨skip_undef rfl (by kernel_rfl) hgs hgd, rfl⟩
    · have hgd : a.tmps.getD 86 undef = .bool false := pre.val 5 86 (by kernel_rfl) (by kernel_rfl)
      have hgs : 86 < a.tmps.size := by rw [pre.size]; first | (simp; done) | (show 86 < 301; decide)
      exact .inr ⟨skip_bool rfl (by kernel_rfl) hgs hgd, rfl⟩
    · refine .inl ?_
      have e86 : a.eval (.tmp 86) = .bool false := pre.val 5 86 (by kernel_rfl) (by kernel_rfl)
      have q86 := e86
      rw [Act.eval, Array.getD_eq_getD_getElem?] at q86
      exact does_val (want_none rfl) (by go_simp) rfl
    · refine .inl ?_
      have e81 : a.eval (.tmp 81) = .agg (St.cells s).toArray := pre.val 0 81 (by kernel_rfl) (by kernel_rfl)
      have q81 := e81
      rw [Act.eval, Array.getD_eq_getD_getElem?] at q81
      have e82 : a.eval (.tmp 82) = .int .i64 i.round := pre.val 1 82 (by kernel_rfl) (by kernel_rfl)
      have q82 := e82
      rw [Act.eval, Array.getD_eq_getD_getElem?] at q82
      have e84 : a.eval (.tmp 84) = .agg (bts i.block).toArray := pre.val 3 84 (by kernel_rfl) (by kernel_rfl)
      have q84 := e84
      rw [Act.eval, Array.getD_eq_getD_getElem?] at q84
      have e97 : a.eval (.tmp 97) = .bool false := pre.val 16 97 (by kernel_rfl) (by kernel_rfl)
      have q97 := e97
      rw [Act.eval, Array.getD_eq_getD_getElem?] at q97
      refine does_call_ex (want_none rfl) (by go_simp) ((rvoted_any s hs i.round i.block hi.block false W).mono fun e W' hx => ?_)
      obtain ⟨u, h1, h2, h3⟩ := hx
      exact ⟨_, h1, ⟨u, rfl, h2.less (hN ▸ pre.b.size)⟩, h3⟩
    · refine .inl ?_
      have hx : ∃ u, a.eval (.tmp 98) = .tuple #[.agg (St.cells {s with step := 2}).toArray, u] ∧ ROutAt W N u (some ⟨2, i.round, if (false : Bool) = true then i.block else zeros, 0⟩) := pre.val 17 98 (by kernel_rfl) (by kernel_rfl)
      obtain ⟨u, q, ho⟩ := hx
      rw [Act.eval, Array.getD_eq_getD_getElem?] at q
      exact does_val (want_none rfl) (by go_simp) rfl
    · refine .inl ?_
      have hx : ∃ u, a.eval (.tmp 98) = .tuple #[.agg (St.cells {s with step := 2}).toArray, u] ∧ ROutAt W N u (some ⟨2, i.round, if (false : Bool) = true then i.block else zeros, 0⟩) := pre.val 17 98 (by kernel_rfl) (by kernel_rfl)
      obtain ⟨u, q, ho⟩ := hx
      rw [Act.eval, Array.getD_eq_getD_getElem?] at q
      exact does_val (want_none rfl) (by go_simp) ho
  case fin =>
    intro a W hb hsz2 hd hv ho
    have qs : a.eval (.tmp 99) = .agg (St.cells {s with step := 2}).toArray := hv 18 99 (by decide) (by kernel_rfl)
    have qo : ROutAt W N (a.eval (.tmp 100)) (some ⟨2, i.round, if (false : Bool) = true then i.block else zeros, 0⟩) := hv 19 100 (by decide) (by kernel_rfl)
    have q4 : a.eval (.tmp 4) = .pointer (some ⟨gr, 0, none⟩) := ho 4 (no_dst (by kernel_rfl))
    have hs8 : 300 < a.tmps.size := by rw [hsz2]; first | (simp; done) | (show 300 < 301; decide)
    have hbk := (HW.out W hb).2.2
    have hBD : Below gs w w0.drew := HB0.out.trans (by (first | assumption | (repeat (first | exact Below.refl _ _ | assumption | apply Below.drew | apply below_drewN | (refine Below.setCell ?_ (by (try simp) <;> omega) _) | (refine Below.alloc ?_ (by (try simp) <;> omega) _)))))
    have hBl : Below gs w W := hBD.trans (hb.mono (hgs ▸ hBD.size))
    have HBL := Lib.hid hBl
    simp only [List.drop_succ_cons, List.drop_zero]
    have hsl2 := St.cells_len (s := {s with step := 2}) ⟨hs.locked, hs.valid, hs.block⟩
    refine wpList_puts (want_none rfl) 31 _ _ rfl gr 0 q4 (St.cells {s with step := 2}) qs 31 St.zero.cells hbk 102 hsl2 (by rw [St.cells_len St.zero_good]; omega) hi_rstate St.one_cells ?_
    intro w7 hb7 hm7 hz7
    rw [put_all (by rw [St.cells_len St.zero_good]; exact hsl2)] at hb7
    have HB7 := Lib.hid hb7
    have HM7 := Lib.hid hm7
    obtain ⟨vo, hvo⟩ : ∃ v, a.eval (.tmp 100) = v := ⟨_, rfl⟩
    rw [hvo] at qo
    have HO := Lib.hid qo
    have p4 := q4
    have po := hvo
    rw [Act.eval, Array.getD_eq_getD_getElem?] at p4 po
    clear hb7 hm7 qo qs hBl
    go_wp2_with fail
    have go_ : a.tmps[100]'(by omega) = vo := by rw [Array.getElem?_eq_getElem (by omega)] at po; simpa using po
    have HBB := HBL
    have hNg : gr < N := by rw [← hN]; have := hbk.lt; have := HR0.out.drew.lt; omega
    have h1 := Kh1.out
    have h2 := Kh2.out
    have h3 := Kh3.out
    have k2 := Kk2.out
    have hr := Khr.out
    have g0 := Kg0.out
    have hg := Khg.out
    refine bodyPost_ret (rstep_results (s := {s with step := 2}) (⟨hs.locked, hs.valid, hs.block⟩) HB7.out ((set_getD_far (by decide)).trans q4) ((set_getD_same (by omega)).trans go_)) rfl ?_
    exact rstep_end (N := N) HO.out (by omega) (by omega) HM7.out (by rw [hgs]; exact HBB.out) (by first | (simp [stepF, nowF, lockF, lateF, prevF, precF, agreedF, beginOut, h1, h2, h3, k2, hr, g0, hg]; done) | (simp [stepF, nowF, lockF, lateF, prevF, precF, agreedF, beginOut, h1, h2, h3, k2, hr, g0, hg]; omega) | (simp [stepF, nowF, lockF, lateF, prevF, precF, agreedF, beginOut, h1, h2, h3, k2, hr, g0, hg]; intros; omega))

set_option maxRecDepth 100000 in
set_option maxHeartbeats 4000000 in
theorem rstepL_l2b (s : St) (i : In) (w : World) (hs : s.good) (hi : i.fits) (h1 : ¬ i.round < 0) (h2 : ¬ 1048576 < i.round) (h3 : ¬ s.step = 4) (k2 : i.kind = 2) (hr : i.round = s.round) (g0 : s.step = 1) (hg : i.good = true) (hbz : i.block = zeros) :
    Calls Tryd.prog 11 #[.agg s.cells.toArray, .agg i.cells.toArray] w (RTold w (stepF s i)) := by
  have Kh1 := Lib.hid h1
  have Kh2 := Lib.hid h2
  have Kh3 := Lib.hid h3
  have Kk2 := Lib.hid k2
  have Khr := Lib.hid hr
  have Kg0 := Lib.hid g0
  have Khg := Lib.hid hg
  have Khbz := Lib.hid hbz
  clear h1 h2 h3 k2 hr g0 hg hbz
  have hzs := zero_rstate
  have hz := zeros_len
  have hzl : (bts zeros).length = 32 := by rw [bts_len, zeros_len]
  have hbl : (bts i.block).length = 32 := by rw [bts_len, hi.block]
  have hol : (bts i.own).length = 32 := by rw [bts_len, hi.own]
  have hll : (bts s.locked).length = 32 := by rw [bts_len, hs.locked]
  have hvl : (bts s.valid).length = 32 := by rw [bts_len, hs.valid]
  have hib := hi.block
  have hio := hi.own
  have hsk := hs.locked
  have hcl := In.cells_len hi
  have hsl := St.cells_len hs
  go_enter Tryd.func11, Tryd.ntmps11
  go_upto_region 1 with fail
  have HS0 := Lib.hid (show Bk (((w.alloc (.cells s.cells.toArray 31)).alloc (.cells i.cells.toArray 36)).alloc (.cells St.zero.cells.toArray 31)) w.heap.size 31 s.cells.toArray from ((Bk.new w 31 s.cells.toArray).alloc _).alloc _)
  have HI0 := Lib.hid (show Bk (((w.alloc (.cells s.cells.toArray 31)).alloc (.cells i.cells.toArray 36)).alloc (.cells St.zero.cells.toArray 31)) (w.heap.size + 1) 36 i.cells.toArray from by have := (Bk.new (w.alloc (.cells s.cells.toArray 31)) 36 i.cells.toArray).alloc (.cells St.zero.cells.toArray 31); simpa using this)
  have HR0 := Lib.hid (show Bk (((w.alloc (.cells s.cells.toArray 31)).alloc (.cells i.cells.toArray 36)).alloc (.cells St.zero.cells.toArray 31)) (w.heap.size + 1 + 1) 31 St.zero.cells.toArray from by have := Bk.new ((w.alloc (.cells s.cells.toArray 31)).alloc (.cells i.cells.toArray 36)) 31 St.zero.cells.toArray; simpa using this)
  have HB0 := Lib.hid (show Below w.heap.size w (((w.alloc (.cells s.cells.toArray 31)).alloc (.cells i.cells.toArray 36)).alloc (.cells St.zero.cells.toArray 31)) from (by (first | assumption | (repeat (first | exact Below.refl _ _ | assumption | apply Below.drew | apply below_drewN | (refine Below.setCell ?_ (by (try simp) <;> omega) _) | (refine Below.alloc ?_ (by (try simp) <;> omega) _))))))
  obtain ⟨v0, hv0⟩ : ∃ v0, ((w.alloc (.cells s.cells.toArray 31)).alloc (.cells i.cells.toArray 36)).alloc (.cells St.zero.cells.toArray 31) = v0 := ⟨_, rfl⟩
  have hsz : v0.heap.size = w.heap.size + 1 + 1 + 1 := by rw [← hv0]; simp
  obtain ⟨gs, hgs⟩ : ∃ gs, w.heap.size = gs := ⟨_, rfl⟩
  rw [hv0] at HS0 HI0 HR0 HB0 ⊢
  rw [hgs] at HS0 HI0 HR0 HB0 hsz ⊢
  obtain ⟨gi, hgi⟩ : ∃ gi, gs + 1 = gi := ⟨_, rfl⟩
  rw [hgi] at HI0 HR0 hsz ⊢
  obtain ⟨gr, hgr⟩ : ∃ gr, gi + 1 = gr := ⟨_, rfl⟩
  rw [hgr] at HR0 hsz ⊢
  clear hv0 hzs
  obtain ⟨d0, d1, d2, d34, d35, d36⟩ := in_out HI0.out hi
  go_wp2_with (refine wpList_val (by rfl) (run_load_seg 23 _ (by with_reducible rfl) _ _ (by rfl) _ (by assumption) 32 (by assumption) _ hu_hash (by rfl) hi_hash) ?_)
  with_reducible refine (rempty_any i.block hi.block _).mono ?_
  rintro e v1 ⟨rfl, hb1⟩
  have HS1 := Lib.hid (HS0.out.below hb1 HS0.out.lt)
  have HI1 := Lib.hid (HI0.out.below hb1 HI0.out.lt)
  have HR1 := Lib.hid (HR0.out.below hb1 HR0.out.lt)
  have HB1 := Lib.hid (HB0.out.trans (hb1.mono (by omega)))
  have hz1 := hb1.size
  clear hb1 HS0 HI0 HR0 HB0 d0 d1 d2 d34 d35 d36
  obtain ⟨d0, d1, d2, d34, d35, d36⟩ := in_out HI1.out hi
  go_wp2_with (refine wpList_val (by rfl) (run_load_seg 23 _ (by with_reducible rfl) _ _ (by rfl) _ (by assumption) 32 (by assumption) _ hu_hash (by rfl) hi_hash) ?_)
  with_reducible refine (rempty_any i.own hi.own _).mono ?_
  rintro e w0 ⟨rfl, hb1⟩
  have HS0 := Lib.hid (HS1.out.below hb1 HS1.out.lt)
  have HI0 := Lib.hid (HI1.out.below hb1 HI1.out.lt)
  have HR0 := Lib.hid (HR1.out.below hb1 HR1.out.lt)
  have HB0 : Hid (Below gs w w0) := Lib.hid (HB1.out.trans (hb1.mono (by omega)))
  have hz0 : v0.heap.size ≤ w0.heap.size := Nat.le_trans hz1 hb1.size
  clear hb1 HS1 HI1 HR1 HB1 d0 d1 d2 d34 d35 d36 hz1
  obtain ⟨c0, c1, c2, c34, c35, c67, c68, c100, c101⟩ := st_out HS0.out hs
  obtain ⟨d0, d1, d2, d34, d35, d36⟩ := in_out HI0.out hi
  have h1 := Kh1.out
  have h2 := Kh2.out
  have h3 := Kh3.out
  have k2 := Kk2.out
  have hr := Khr.out
  have g0 := Kg0.out
  have hg := Khg.out
  have hbz := Khbz.out
  rw [hg] at d35
  clear h1 h2 h3 k2 hr g0 hg hbz
  have h1 := Kh1.out
  have h2 := Kh2.out
  have h3 := Kh3.out
  have k2 := Kk2.out
  have hr := Khr.out
  have g0 := Kg0.out
  have hg := Khg.out
  have hbz := Khbz.out
  have el : decide (i.round < 0) = false := by simpa using h1
  have em : decide (1048576 < i.round) = false := by simpa using h2
  have e4 : (s.step == 4) = false := by simpa using h3
  have en1 : (i.kind == 1) = false := by simp [k2]
  have en2 : (i.kind == 2) = true := by simp [k2]
  have en3 : (i.kind == 3) = false := by simp [k2]
  have en4 : (i.kind == 4) = false := by simp [k2]
  have en5 : (i.kind == 5) = false := by simp [k2]
  have en6 : (i.kind == 6) = false := by simp [k2]
  have en7 : (i.kind == 7) = false := by simp [k2]
  have en8 : (i.kind == 8) = false := by simp [k2]
  have en9 : (i.kind == 9) = false := by simp [k2]
  have en10 : (i.kind == 10) = false := by simp [k2]
  have en11 : (i.kind == 11) = false := by simp [k2]
  have en12 : (i.kind == 12) = false := by simp [k2]
  have er : (i.round == s.round) = true := by simp [hr]
  have f0 : (s.step == 1) = true := by simpa using g0
  have eb : (i.block == zeros) = true := by simp [hbz]
  clear h1 h2 h3 k2 hr g0 hg hbz
  go_upto_region 21 with (first | (refine wpList_val (by rfl) (run_load_seg 23 _ (by with_reducible rfl) _ _ (by rfl) _ (by assumption) 32 (by assumption) _ hu_hash (by rfl) hi_hash) ?_))
  clear c0 c1 c2 c34 c35 c67 c68 c100 c101 d0 d1 d2 d34 d35 d36
  obtain ⟨N, hN⟩ : ∃ N, w0.drew.heap.size = N := ⟨_, rfl⟩
  have HW : Hid (∀ W, Below w0.drew.heap.size w0.drew W → Bk W gs 31 (St.cells s).toArray ∧ Bk W gi 36 i.cells.toArray ∧ Bk W gr 31 St.zero.cells.toArray) := Lib.hid (fun W h => ⟨HS0.out.drew.below h (HS0.out.drew.lt), HI0.out.drew.below h (HI0.out.drew.lt), HR0.out.drew.below h (HR0.out.drew.lt)⟩)
  have hgx : (s : St).good := hs
  have hsl1 := St.cells_len (s := s) hgx
  have hbl1 : (bts (s : St).valid).length = 32 := by rw [bts_len, hgx.valid]
  have hkl1 : (bts (s : St).locked).length = 32 := by rw [bts_len, hgx.locked]
  refine wp_region_each_tail 20 (lstV [fun v _ => v = .agg (St.cells s).toArray, fun v _ => v = .int .i64 i.round, fun v _ => v = .pointer (some ⟨gi, 2, none⟩), fun v _ => v = .agg (bts i.block).toArray, fun v _ => v = .bool false, fun v _ => v = .bool false, fun v _ => v = undef, fun v _ => v = undef, fun v _ => v = undef, fun v _ => v = undef, fun v _ => v = undef, fun v _ => v = undef, fun v _ => v = undef, fun v _ => v = undef, fun v _ => v = undef, fun v _ => v = undef, fun v _ => v = .bool false, fun v W => ∃ u, v = .tuple #[.agg (St.cells {s with step := 2}).toArray, u] ∧ ROutAt W N u (some ⟨2, i.round, if (false : Bool) = true then i.block else zeros, 0⟩), fun v _ => v = .agg (St.cells {s with step := 2}).toArray, fun v W => ROutAt W N v (some ⟨2, i.round, if (false : Bool) = true then i.block else zeros, 0⟩)]) (by kernel_rfl) (by kernel_rfl) (lstV_on (by repeat' (first | exact forall_nil | refine forall_cons ?_ ?_ | exact stays_rout _ _ | exact stays_tup _ _ _ | exact stays_eq _))) ?turns ?fin
  case turns =>
    refine ⟨fun a W pre => ?_, fun a W pre => ?_, fun a W pre => ?_, fun a W pre => ?_, fun a W pre => ?_, fun a W pre => ?_, fun a W pre => ?_, fun a W pre => ?_, fun a W pre => ?_, fun a W pre => ?_, fun a W pre => ?_, fun a W pre => ?_, fun a W pre => ?_, fun a W pre => ?_, fun a W pre => ?_, fun a W pre => ?_, fun a W pre => ?_, fun a W pre => ?_, fun a W pre => ?_, fun a W pre => ?_, trivial⟩
    · refine .inl ?_
      have e2 : a.eval (.tmp 2) = .pointer (some ⟨gs, 0, none⟩) := pre.was 2 (by kernel_rfl) rfl
      have q2 := e2
      rw [Act.eval, Array.getD_eq_getD_getElem?] at q2
      exact does_val (want_none rfl) (run_load_seg 31 _ rfl gs 0 e2 (St.cells s) (HW.out W pre.b).1.all 102 hsl1 _ Tryd.underlying31 rfl hi_rstate) rfl
    · refine .inl ?_
      have e6 : a.eval (.tmp 6) = .int .i64 i.round := pre.was 6 (by kernel_rfl) rfl
      have q6 := e6
      rw [Act.eval, Array.getD_eq_getD_getElem?] at q6
      exact does_val (want_none rfl) (by go_simp) rfl
    · refine .inl ?_
      have e3 : a.eval (.tmp 3) = .pointer (some ⟨gi, 0, none⟩) := pre.was 3 (by kernel_rfl) rfl
      have q3 := e3
      rw [Act.eval, Array.getD_eq_getD_getElem?] at q3
      exact does_val (want_none rfl) (by go_simp) rfl
    · refine .inl ?_
      have e83 : a.eval (.tmp 83) = .pointer (some ⟨gi, 2, none⟩) := pre.val 2 83 (by kernel_rfl) (by kernel_rfl)
      have q83 := e83
      rw [Act.eval, Array.getD_eq_getD_getElem?] at q83
      exact does_val (want_none rfl) (run_load_seg 23 _ rfl gi 2 e83 (bts i.block) ((in_out (HW.out W pre.b).2.1 hi).2.2.1) 32 hbl _ hu_hash rfl hi_hash) rfl
    · refine .inl ?_
      have e9 : a.eval (.tmp 9) = .bool false := pre.was 9 (by kernel_rfl) rfl
      have q9 := e9
      rw [Act.eval, Array.getD_eq_getD_getElem?] at q9
      exact does_val (want_none rfl) (by go_simp) rfl
    · refine .inl ?_
      have e85 : a.eval (.tmp 85) = .bool false := pre.val 4 85 (by kernel_rfl) (by kernel_rfl)
      have q85 := e85
      rw [Act.eval, Array.getD_eq_getD_getElem?] at q85
      exact does_val (want_none rfl) (by go_simp) rfl
    · have hgd : a.tmps.getD 86 undef = .bool false := pre.val 5 86 (by kernel_rfl) (by kernel_rfl)
      have hgs : 86 < a.tmps.size := by rw [pre.size]; first | (simp; done) | (show 86 < 301; decide)
      exact .inr ⟨skip_bool rfl (by kernel_rfl) hgs hgd, rfl⟩
    · have hgd : a.tmps.getD 86 undef = .bool false := pre.val 5 86 (by kernel_rfl) (by kernel_rfl)
      have hgs : 86 < a.tmps.size := by rw [pre.size]; first | (simp; done) | (show 86 < 301; decide)
      exact .inr ⟨skip_bool rfl (by kernel_rfl) hgs hgd, rfl⟩
    · have hgd : a.tmps.getD 86 undef = .bool false := pre.val 5 86 (by kernel_rfl) (by kernel_rfl)
      have hgs : 86 < a.tmps.size := by rw [pre.size]; first | (simp; done) | (show 86 < 301; decide)
      exact .inr ⟨skip_bool rfl (by kernel_rfl) hgs hgd, rfl⟩
    · have hgd : a.tmps.getD 86 undef = .bool false := pre.val 5 86 (by kernel_rfl) (by kernel_rfl)
      have hgs : 86 < a.tmps.size := by rw [pre.size]; first | (simp; done) | (show 86 < 301; decide)
      exact .inr ⟨skip_bool rfl (by kernel_rfl) hgs hgd, rfl⟩
    · have hgd : a.tmps.getD 90 undef = undef := pre.val 9 90 (by kernel_rfl) (by kernel_rfl)
      have hgs : 90 < a.tmps.size := by rw [pre.size]; first | (simp; done) | (show 90 < 301; decide)
      exact .inr ⟨skip_undef rfl (by kernel_rfl) hgs hgd, rfl⟩
    · have hgd : a.tmps.getD 90 undef = undef := pre.val 9 90 (by kernel_rfl) (by kernel_rfl)
      have hgs : 90 < a.tmps.size := by rw [pre.size]; first | (simp; done) | (show 90 < 301; decide)
      exact .inr ⟨skip_undef rfl (by kernel_rfl) hgs hgd, rfl⟩
    · have hgd : a.tmps.getD 90 undef = undef := pre.val 9 90 (by kernel_rfl) (by kernel_rfl)
      have hgs : 90 < a.tmps.size := by rw [pre.size]; first | (simp; done) | (show 90 < 301; decide)
      exact .inr ⟨skip_undef rfl (by kernel_rfl) hgs hgd, rfl⟩
    · have hgd : a.tmps.getD 90 undef = undef := pre.val 9 90 (by kernel_rfl) (by kernel_rfl)
      have hgs : 90 < a.tmps.size := by rw [pre.size]; first | (simp; done) | (show 90 < 301; decide)
      exact .inr ⟨skip_undef rfl (by kernel_rfl) hgs hgd, rfl⟩
    · have hgd : a.tmps.getD 90 undef = undef := pre.val 9 90 (by kernel_rfl) (by kernel_rfl)
      have hgs : 90 < a.tmps.size := by rw [pre.size]; first | (simp; done) | (show 90 < 301; decide)
      exact .inr ⟨skip_undef rfl (by kernel_rfl) hgs hgd, rfl⟩
    · have hgd : a.tmps.getD 86 undef = .bool false := pre.val 5 86 (by kernel_rfl) (by kernel_rfl)
      have hgs : 86 < a.tmps.size := by rw [pre.size]; first | (simp; done) | (show 86 < 301; decide)
      exact .inr ⟨skip_bool rfl (by kernel_rfl) hgs hgd, rfl⟩
    · refine .inl ?_
      have e86 : a.eval (.tmp 86) = .bool false := pre.val 5 86 (by kernel_rfl) (by kernel_rfl)
      have q86 := e86
      rw [Act.eval, Array.getD_eq_getD_getElem?] at q86
      exact does_val (want_none rfl) (by go_simp) rfl
    · refine .inl ?_
      have e81 : a.eval (.tmp 81) = .agg (St.cells s).toArray := pre.val 0 81 (by kernel_rfl) (by kernel_rfl)
      have q81 := e81
      rw [Act.eval, Array.getD_eq_getD_getElem?] at q81
      have e82 : a.eval (.tmp 82) = .int .i64 i.round := pre.val 1 82 (by kernel_rfl) (by kernel_rfl)
      have q82 := e82
      rw [Act.eval, Array.getD_eq_getD_getElem?] at q82
      have e84 : a.eval (.tmp 84) = .agg (bts i.block).toArray := pre.val 3 84 (by kernel_rfl) (by kernel_rfl)
      have q84 := e84
      rw [Act.eval, Array.getD_eq_getD_getElem?] at q84
      have e97 : a.eval (.tmp 97) = .bool false := pre.val 16 97 (by kernel_rfl) (by kernel_rfl)
      have q97 := e97
      rw [Act.eval, Array.getD_eq_getD_getElem?] at q97
      refine does_call_ex (want_none rfl) (by go_simp) ((rvoted_any s hs i.round i.block hi.block false W).mono fun e W' hx => ?_)
      obtain ⟨u, h1, h2, h3⟩ := hx
      exact ⟨_, h1, ⟨u, rfl, h2.less (hN ▸ pre.b.size)⟩, h3⟩
    · refine .inl ?_
      have hx : ∃ u, a.eval (.tmp 98) = .tuple #[.agg (St.cells {s with step := 2}).toArray, u] ∧ ROutAt W N u (some ⟨2, i.round, if (false : Bool) = true then i.block else zeros, 0⟩) := pre.val 17 98 (by kernel_rfl) (by kernel_rfl)
      obtain ⟨u, q, ho⟩ := hx
      rw [Act.eval, Array.getD_eq_getD_getElem?] at q
      exact does_val (want_none rfl) (by go_simp) rfl
    · refine .inl ?_
      have hx : ∃ u, a.eval (.tmp 98) = .tuple #[.agg (St.cells {s with step := 2}).toArray, u] ∧ ROutAt W N u (some ⟨2, i.round, if (false : Bool) = true then i.block else zeros, 0⟩) := pre.val 17 98 (by kernel_rfl) (by kernel_rfl)
      obtain ⟨u, q, ho⟩ := hx
      rw [Act.eval, Array.getD_eq_getD_getElem?] at q
      exact does_val (want_none rfl) (by go_simp) ho
  case fin =>
    intro a W hb hsz2 hd hv ho
    have qs : a.eval (.tmp 99) = .agg (St.cells {s with step := 2}).toArray := hv 18 99 (by decide) (by kernel_rfl)
    have qo : ROutAt W N (a.eval (.tmp 100)) (some ⟨2, i.round, if (false : Bool) = true then i.block else zeros, 0⟩) := hv 19 100 (by decide) (by kernel_rfl)
    have q4 : a.eval (.tmp 4) = .pointer (some ⟨gr, 0, none⟩) := ho 4 (no_dst (by kernel_rfl))
    have hs8 : 300 < a.tmps.size := by rw [hsz2]; first | (simp; done) | (show 300 < 301; decide)
    have hbk := (HW.out W hb).2.2
    have hBD : Below gs w w0.drew := HB0.out.trans (by (first | assumption | (repeat (first | exact Below.refl _ _ | assumption | apply Below.drew | apply below_drewN | (refine Below.setCell ?_ (by (try simp) <;> omega) _) | (refine Below.alloc ?_ (by (try simp) <;> omega) _)))))
    have hBl : Below gs w W := hBD.trans (hb.mono (hgs ▸ hBD.size))
    have HBL := Lib.hid hBl
    simp only [List.drop_succ_cons, List.drop_zero]
    have hsl2 := St.cells_len (s := {s with step := 2}) ⟨hs.locked, hs.valid, hs.block⟩
    refine wpList_puts (want_none rfl) 31 _ _ rfl gr 0 q4 (St.cells {s with step := 2}) qs 31 St.zero.cells hbk 102 hsl2 (by rw [St.cells_len St.zero_good]; omega) hi_rstate St.one_cells ?_
    intro w7 hb7 hm7 hz7
    rw [put_all (by rw [St.cells_len St.zero_good]; exact hsl2)] at hb7
    have HB7 := Lib.hid hb7
    have HM7 := Lib.hid hm7
    obtain ⟨vo, hvo⟩ : ∃ v, a.eval (.tmp 100) = v := ⟨_, rfl⟩
    rw [hvo] at qo
    have HO := Lib.hid qo
    have p4 := q4
    have po := hvo
    rw [Act.eval, Array.getD_eq_getD_getElem?] at p4 po
    clear hb7 hm7 qo qs hBl
    go_wp2_with fail
    have go_ : a.tmps[100]'(by omega) = vo := by rw [Array.getElem?_eq_getElem (by omega)] at po; simpa using po
    have HBB := HBL
    have hNg : gr < N := by rw [← hN]; have := hbk.lt; have := HR0.out.drew.lt; omega
    have h1 := Kh1.out
    have h2 := Kh2.out
    have h3 := Kh3.out
    have k2 := Kk2.out
    have hr := Khr.out
    have g0 := Kg0.out
    have hg := Khg.out
    have hbz := Khbz.out
    refine bodyPost_ret (rstep_results (s := {s with step := 2}) (⟨hs.locked, hs.valid, hs.block⟩) HB7.out ((set_getD_far (by decide)).trans q4) ((set_getD_same (by omega)).trans go_)) rfl ?_
    exact rstep_end (N := N) HO.out (by omega) (by omega) HM7.out (by rw [hgs]; exact HBB.out) (by first | (simp [stepF, nowF, lockF, lateF, prevF, precF, agreedF, beginOut, h1, h2, h3, k2, hr, g0, hg, hbz]; done) | (simp [stepF, nowF, lockF, lateF, prevF, precF, agreedF, beginOut, h1, h2, h3, k2, hr, g0, hg, hbz]; omega) | (simp [stepF, nowF, lockF, lateF, prevF, precF, agreedF, beginOut, h1, h2, h3, k2, hr, g0, hg, hbz]; intros; omega))

set_option maxRecDepth 100000 in
set_option maxHeartbeats 4000000 in
theorem rstepL_l2c (s : St) (i : In) (w : World) (hs : s.good) (hi : i.fits) (h1 : ¬ i.round < 0) (h2 : ¬ 1048576 < i.round) (h3 : ¬ s.step = 4) (k2 : i.kind = 2) (hr : i.round = s.round) (g0 : s.step = 1) (hg : i.good = true) (hbz : ¬ i.block = zeros) (hl : s.lr < 0) :
    Calls Tryd.prog 11 #[.agg s.cells.toArray, .agg i.cells.toArray] w (RTold w (stepF s i)) := by
  have Kh1 := Lib.hid h1
  have Kh2 := Lib.hid h2
  have Kh3 := Lib.hid h3
  have Kk2 := Lib.hid k2
  have Khr := Lib.hid hr
  have Kg0 := Lib.hid g0
  have Khg := Lib.hid hg
  have Khbz := Lib.hid hbz
  have Khl := Lib.hid hl
  clear h1 h2 h3 k2 hr g0 hg hbz hl
  have hzs := zero_rstate
  have hz := zeros_len
  have hzl : (bts zeros).length = 32 := by rw [bts_len, zeros_len]
  have hbl : (bts i.block).length = 32 := by rw [bts_len, hi.block]
  have hol : (bts i.own).length = 32 := by rw [bts_len, hi.own]
  have hll : (bts s.locked).length = 32 := by rw [bts_len, hs.locked]
  have hvl : (bts s.valid).length = 32 := by rw [bts_len, hs.valid]
  have hib := hi.block
  have hio := hi.own
  have hsk := hs.locked
  have hcl := In.cells_len hi
  have hsl := St.cells_len hs
  go_enter Tryd.func11, Tryd.ntmps11
  go_upto_region 1 with fail
  have HS0 := Lib.hid (show Bk (((w.alloc (.cells s.cells.toArray 31)).alloc (.cells i.cells.toArray 36)).alloc (.cells St.zero.cells.toArray 31)) w.heap.size 31 s.cells.toArray from ((Bk.new w 31 s.cells.toArray).alloc _).alloc _)
  have HI0 := Lib.hid (show Bk (((w.alloc (.cells s.cells.toArray 31)).alloc (.cells i.cells.toArray 36)).alloc (.cells St.zero.cells.toArray 31)) (w.heap.size + 1) 36 i.cells.toArray from by have := (Bk.new (w.alloc (.cells s.cells.toArray 31)) 36 i.cells.toArray).alloc (.cells St.zero.cells.toArray 31); simpa using this)
  have HR0 := Lib.hid (show Bk (((w.alloc (.cells s.cells.toArray 31)).alloc (.cells i.cells.toArray 36)).alloc (.cells St.zero.cells.toArray 31)) (w.heap.size + 1 + 1) 31 St.zero.cells.toArray from by have := Bk.new ((w.alloc (.cells s.cells.toArray 31)).alloc (.cells i.cells.toArray 36)) 31 St.zero.cells.toArray; simpa using this)
  have HB0 := Lib.hid (show Below w.heap.size w (((w.alloc (.cells s.cells.toArray 31)).alloc (.cells i.cells.toArray 36)).alloc (.cells St.zero.cells.toArray 31)) from (by (first | assumption | (repeat (first | exact Below.refl _ _ | assumption | apply Below.drew | apply below_drewN | (refine Below.setCell ?_ (by (try simp) <;> omega) _) | (refine Below.alloc ?_ (by (try simp) <;> omega) _))))))
  obtain ⟨v0, hv0⟩ : ∃ v0, ((w.alloc (.cells s.cells.toArray 31)).alloc (.cells i.cells.toArray 36)).alloc (.cells St.zero.cells.toArray 31) = v0 := ⟨_, rfl⟩
  have hsz : v0.heap.size = w.heap.size + 1 + 1 + 1 := by rw [← hv0]; simp
  obtain ⟨gs, hgs⟩ : ∃ gs, w.heap.size = gs := ⟨_, rfl⟩
  rw [hv0] at HS0 HI0 HR0 HB0 ⊢
  rw [hgs] at HS0 HI0 HR0 HB0 hsz ⊢
  obtain ⟨gi, hgi⟩ : ∃ gi, gs + 1 = gi := ⟨_, rfl⟩
  rw [hgi] at HI0 HR0 hsz ⊢
  obtain ⟨gr, hgr⟩ : ∃ gr, gi + 1 = gr := ⟨_, rfl⟩
  rw [hgr] at HR0 hsz ⊢
  clear hv0 hzs
  obtain ⟨d0, d1, d2, d34, d35, d36⟩ := in_out HI0.out hi
  go_wp2_with (refine wpList_val (by rfl) (run_load_seg 23 _ (by with_reducible rfl) _ _ (by rfl) _ (by assumption) 32 (by assumption) _ hu_hash (by rfl) hi_hash) ?_)
  with_reducible refine (rempty_any i.block hi.block _).mono ?_
  rintro e v1 ⟨rfl, hb1⟩
  have HS1 := Lib.hid (HS0.out.below hb1 HS0.out.lt)
  have HI1 := Lib.hid (HI0.out.below hb1 HI0.out.lt)
  have HR1 := Lib.hid (HR0.out.below hb1 HR0.out.lt)
  have HB1 := Lib.hid (HB0.out.trans (hb1.mono (by omega)))
  have hz1 := hb1.size
  clear hb1 HS0 HI0 HR0 HB0 d0 d1 d2 d34 d35 d36
  obtain ⟨d0, d1, d2, d34, d35, d36⟩ := in_out HI1.out hi
  go_wp2_with (refine wpList_val (by rfl) (run_load_seg 23 _ (by with_reducible rfl) _ _ (by rfl) _ (by assumption) 32 (by assumption) _ hu_hash (by rfl) hi_hash) ?_)
  with_reducible refine (rempty_any i.own hi.own _).mono ?_
  rintro e w0 ⟨rfl, hb1⟩
  have HS0 := Lib.hid (HS1.out.below hb1 HS1.out.lt)
  have HI0 := Lib.hid (HI1.out.below hb1 HI1.out.lt)
  have HR0 := Lib.hid (HR1.out.below hb1 HR1.out.lt)
  have HB0 : Hid (Below gs w w0) := Lib.hid (HB1.out.trans (hb1.mono (by omega)))
  have hz0 : v0.heap.size ≤ w0.heap.size := Nat.le_trans hz1 hb1.size
  clear hb1 HS1 HI1 HR1 HB1 d0 d1 d2 d34 d35 d36 hz1
  obtain ⟨c0, c1, c2, c34, c35, c67, c68, c100, c101⟩ := st_out HS0.out hs
  obtain ⟨d0, d1, d2, d34, d35, d36⟩ := in_out HI0.out hi
  have h1 := Kh1.out
  have h2 := Kh2.out
  have h3 := Kh3.out
  have k2 := Kk2.out
  have hr := Khr.out
  have g0 := Kg0.out
  have hg := Khg.out
  have hbz := Khbz.out
  have hl := Khl.out
  rw [hg] at d35
  clear h1 h2 h3 k2 hr g0 hg hbz hl
  have h1 := Kh1.out
  have h2 := Kh2.out
  have h3 := Kh3.out
  have k2 := Kk2.out
  have hr := Khr.out
  have g0 := Kg0.out
  have hg := Khg.out
  have hbz := Khbz.out
  have hl := Khl.out
  have el : decide (i.round < 0) = false := by simpa using h1
  have em : decide (1048576 < i.round) = false := by simpa using h2
  have e4 : (s.step == 4) = false := by simpa using h3
  have en1 : (i.kind == 1) = false := by simp [k2]
  have en2 : (i.kind == 2) = true := by simp [k2]
  have en3 : (i.kind == 3) = false := by simp [k2]
  have en4 : (i.kind == 4) = false := by simp [k2]
  have en5 : (i.kind == 5) = false := by simp [k2]
  have en6 : (i.kind == 6) = false := by simp [k2]
  have en7 : (i.kind == 7) = false := by simp [k2]
  have en8 : (i.kind == 8) = false := by simp [k2]
  have en9 : (i.kind == 9) = false := by simp [k2]
  have en10 : (i.kind == 10) = false := by simp [k2]
  have en11 : (i.kind == 11) = false := by simp [k2]
  have en12 : (i.kind == 12) = false := by simp [k2]
  have er : (i.round == s.round) = true := by simp [hr]
  have f0 : (s.step == 1) = true := by simpa using g0
  have eb : (i.block == zeros) = false := by simpa using hbz
  have FLR : decide (s.lr < 0) = true := by simpa using hl
  clear h1 h2 h3 k2 hr g0 hg hbz hl
  go_upto_region 21 with (first | (refine wpList_val (by rfl) (run_load_seg 23 _ (by with_reducible rfl) _ _ (by rfl) _ (by assumption) 32 (by assumption) _ hu_hash (by rfl) hi_hash) ?_))
  clear c0 c1 c2 c34 c35 c67 c68 c100 c101 d0 d1 d2 d34 d35 d36
  obtain ⟨N, hN⟩ : ∃ N, w0.drew.heap.size = N := ⟨_, rfl⟩
  have HW : Hid (∀ W, Below w0.drew.heap.size w0.drew W → Bk W gs 31 (St.cells s).toArray ∧ Bk W gi 36 i.cells.toArray ∧ Bk W gr 31 St.zero.cells.toArray) := Lib.hid (fun W h => ⟨HS0.out.drew.below h (HS0.out.drew.lt), HI0.out.drew.below h (HI0.out.drew.lt), HR0.out.drew.below h (HR0.out.drew.lt)⟩)
  have hgx : (s : St).good := hs
  have hsl1 := St.cells_len (s := s) hgx
  have hbl1 : (bts (s : St).valid).length = 32 := by rw [bts_len, hgx.valid]
  have hkl1 : (bts (s : St).locked).length = 32 := by rw [bts_len, hgx.locked]
  refine wp_region_each_tail 20 (lstV [fun v _ => v = .agg (St.cells s).toArray, fun v _ => v = .int .i64 i.round, fun v _ => v = .pointer (some ⟨gi, 2, none⟩), fun v _ => v = .agg (bts i.block).toArray, fun v _ => v = .bool true, fun v _ => v = .bool true, fun v _ => v = .pointer (some ⟨gs, 34, none⟩), fun v _ => v = .int .i64 (s.lr), fun v _ => v = .bool true, fun v _ => v = .bool true, fun v _ => v = undef, fun v _ => v = undef, fun v _ => v = undef, fun v _ => v = undef, fun v _ => v = undef, fun v _ => v = .bool true, fun v _ => v = .bool true, fun v W => ∃ u, v = .tuple #[.agg (St.cells {s with step := 2}).toArray, u] ∧ ROutAt W N u (some ⟨2, i.round, if (true : Bool) = true then i.block else zeros, 0⟩), fun v _ => v = .agg (St.cells {s with step := 2}).toArray, fun v W => ROutAt W N v (some ⟨2, i.round, if (true : Bool) = true then i.block else zeros, 0⟩)]) (by kernel_rfl) (by kernel_rfl) (lstV_on (by repeat' (first | exact forall_nil | refine forall_cons ?_ ?_ | exact stays_rout _ _ | exact stays_tup _ _ _ | exact stays_eq _))) ?turns ?fin
  case turns =>
    refine ⟨fun a W pre => ?_, fun a W pre => ?_, fun a W pre => ?_, fun a W pre => ?_, fun a W pre => ?_, fun a W pre => ?_, fun a W pre => ?_, fun a W pre => ?_, fun a W pre => ?_, fun a W pre => ?_, fun a W pre => ?_, fun a W pre => ?_, fun a W pre => ?_, fun a W pre => ?_, fun a W pre => ?_, fun a W pre => ?_, fun a W pre => ?_, fun a W pre => ?_, fun a W pre => ?_, fun a W pre => ?_, trivial⟩
    · refine .inl ?_
      have e2 : a.eval (.tmp 2) = .pointer (some ⟨gs, 0, none⟩) := pre.was 2 (by kernel_rfl) rfl
      have q2 := e2
      rw [Act.eval, Array.getD_eq_getD_getElem?] at q2
      exact does_val (want_none rfl) (run_load_seg 31 _ rfl gs 0 e2 (St.cells s) (HW.out W pre.b).1.all 102 hsl1 _ Tryd.underlying31 rfl hi_rstate) rfl
    · refine .inl ?_
      have e6 : a.eval (.tmp 6) = .int .i64 i.round := pre.was 6 (by kernel_rfl) rfl
      have q6 := e6
      rw [Act.eval, Array.getD_eq_getD_getElem?] at q6
      exact does_val (want_none rfl) (by go_simp) rfl
    · refine .inl ?_
      have e3 : a.eval (.tmp 3) = .pointer (some ⟨gi, 0, none⟩) := pre.was 3 (by kernel_rfl) rfl
      have q3 := e3
      rw [Act.eval, Array.getD_eq_getD_getElem?] at q3
      exact does_val (want_none rfl) (by go_simp) rfl
    · refine .inl ?_
      have e83 : a.eval (.tmp 83) = .pointer (some ⟨gi, 2, none⟩) := pre.val 2 83 (by kernel_rfl) (by kernel_rfl)
      have q83 := e83
      rw [Act.eval, Array.getD_eq_getD_getElem?] at q83
      exact does_val (want_none rfl) (run_load_seg 23 _ rfl gi 2 e83 (bts i.block) ((in_out (HW.out W pre.b).2.1 hi).2.2.1) 32 hbl _ hu_hash rfl hi_hash) rfl
    · refine .inl ?_
      have e9 : a.eval (.tmp 9) = .bool true := pre.was 9 (by kernel_rfl) rfl
      have q9 := e9
      rw [Act.eval, Array.getD_eq_getD_getElem?] at q9
      exact does_val (want_none rfl) (by go_simp) rfl
    · refine .inl ?_
      have e85 : a.eval (.tmp 85) = .bool true := pre.val 4 85 (by kernel_rfl) (by kernel_rfl)
      have q85 := e85
      rw [Act.eval, Array.getD_eq_getD_getElem?] at q85
      exact does_val (want_none rfl) (by go_simp) rfl
    · have hgd : a.tmps.getD 86 undef = .bool true := pre.val 5 86 (by kernel_rfl) (by kernel_rfl)
      have hgs : 86 < a.tmps.size := by rw [pre.size]; first | (simp; done) | (show 86 < 301; decide)
      refine .inl ?_
      have e2 : a.eval (.tmp 2) = .pointer (some ⟨gs, 0, none⟩) := pre.was 2 (by kernel_rfl) rfl
      have q2 := e2
      rw [Act.eval, Array.getD_eq_getD_getElem?] at q2
      exact does_val (want_some rfl (by kernel_rfl) hgs hgd) (by go_simp) rfl
    · have hgd : a.tmps.getD 86 undef = .bool true := pre.val 5 86 (by kernel_rfl) (by kernel_rfl)
      have hgs : 86 < a.tmps.size := by rw [pre.size]; first | (simp; done) | (show 86 < 301; decide)
      refine .inl ?_
      have e87 : a.eval (.tmp 87) = .pointer (some ⟨gs, 34, none⟩) := pre.val 6 87 (by kernel_rfl) (by kernel_rfl)
      have q87 := e87
      rw [Act.eval, Array.getD_eq_getD_getElem?] at q87
      have cc := (st_out (HW.out W pre.b).1 hgx).2.2.2.1
      exact does_val (want_some rfl (by kernel_rfl) hgs hgd) (by go_simp) rfl
    · have hgd : a.tmps.getD 86 undef = .bool true := pre.val 5 86 (by kernel_rfl) (by kernel_rfl)
      have hgs : 86 < a.tmps.size := by rw [pre.size]; first | (simp; done) | (show 86 < 301; decide)
      refine .inl ?_
      have e88 : a.eval (.tmp 88) = .int .i64 (s.lr) := pre.val 7 88 (by kernel_rfl) (by kernel_rfl)
      have q88 := e88
      rw [Act.eval, Array.getD_eq_getD_getElem?] at q88
      have fl := FLR
      exact does_val (want_some rfl (by kernel_rfl) hgs hgd) (by go_simp) rfl
    · have hgd : a.tmps.getD 86 undef = .bool true := pre.val 5 86 (by kernel_rfl) (by kernel_rfl)
      have hgs : 86 < a.tmps.size := by rw [pre.size]; first | (simp; done) | (show 86 < 301; decide)
      refine .inl ?_
      have e89 : a.eval (.tmp 89) = .bool true := pre.val 8 89 (by kernel_rfl) (by kernel_rfl)
      have q89 := e89
      rw [Act.eval, Array.getD_eq_getD_getElem?] at q89
      exact does_val (want_some rfl (by kernel_rfl) hgs hgd) (by go_simp) rfl
    · have hgd : a.tmps.getD 90 undef = .bool true := pre.val 9 90 (by kernel_rfl) (by kernel_rfl)
      have hgs : 90 < a.tmps.size := by rw [pre.size]; first | (simp; done) | (show 90 < 301; decide)
      exact .inr ⟨skip_bool rfl (by kernel_rfl) hgs hgd, rfl⟩
    · have hgd : a.tmps.getD 90 undef = .bool true := pre.val 9 90 (by kernel_rfl) (by kernel_rfl)
      have hgs : 90 < a.tmps.size := by rw [pre.size]; first | (simp; done) | (show 90 < 301; decide)
      exact .inr ⟨skip_bool rfl (by kernel_rfl) hgs hgd, rfl⟩
    · have hgd : a.tmps.getD 90 undef = .bool true := pre.val 9 90 (by kernel_rfl) (by kernel_rfl)
      have hgs : 90 < a.tmps.size := by rw [pre.size]; first | (simp; done) | (show 90 < 301; decide)
      exact .inr ⟨skip_bool rfl (by kernel_rfl) hgs hgd, rfl⟩
    · have hgd : a.tmps.getD 90 undef = .bool true := pre.val 9 90 (by kernel_rfl) (by kernel_rfl)
      have hgs : 90 < a.tmps.size := by rw [pre.size]; first | (simp; done) | (show 90 < 301; decide)
      exact .inr ⟨skip_bool rfl (by kernel_rfl) hgs hgd, rfl⟩
    · have hgd : a.tmps.getD 90 undef = .bool true := pre.val 9 90 (by kernel_rfl) (by kernel_rfl)
      have hgs : 90 < a.tmps.size := by rw [pre.size]; first | (simp; done) | (show 90 < 301; decide)
      exact .inr ⟨skip_bool rfl (by kernel_rfl) hgs hgd, rfl⟩
    · have hgd : a.tmps.getD 86 undef = .bool true := pre.val 5 86 (by kernel_rfl) (by kernel_rfl)
      have hgs : 86 < a.tmps.size := by rw [pre.size]; first | (simp; done) | (show 86 < 301; decide)
      refine .inl ?_
      have e90 : a.eval (.tmp 90) = .bool true := pre.val 9 90 (by kernel_rfl) (by kernel_rfl)
      have q90 := e90
      rw [Act.eval, Array.getD_eq_getD_getElem?] at q90
      exact does_val (want_some rfl (by kernel_rfl) hgs hgd) (by go_simp) rfl
    · refine .inl ?_
      have e86 : a.eval (.tmp 86) = .bool true := pre.val 5 86 (by kernel_rfl) (by kernel_rfl)
      have q86 := e86
      rw [Act.eval, Array.getD_eq_getD_getElem?] at q86
      have e96 : a.eval (.tmp 96) = .bool true := pre.val 15 96 (by kernel_rfl) (by kernel_rfl)
      have q96 := e96
      rw [Act.eval, Array.getD_eq_getD_getElem?] at q96
      exact does_val (want_none rfl) (by go_simp) rfl
    · refine .inl ?_
      have e81 : a.eval (.tmp 81) = .agg (St.cells s).toArray := pre.val 0 81 (by kernel_rfl) (by kernel_rfl)
      have q81 := e81
      rw [Act.eval, Array.getD_eq_getD_getElem?] at q81
      have e82 : a.eval (.tmp 82) = .int .i64 i.round := pre.val 1 82 (by kernel_rfl) (by kernel_rfl)
      have q82 := e82
      rw [Act.eval, Array.getD_eq_getD_getElem?] at q82
      have e84 : a.eval (.tmp 84) = .agg (bts i.block).toArray := pre.val 3 84 (by kernel_rfl) (by kernel_rfl)
      have q84 := e84
      rw [Act.eval, Array.getD_eq_getD_getElem?] at q84
      have e97 : a.eval (.tmp 97) = .bool true := pre.val 16 97 (by kernel_rfl) (by kernel_rfl)
      have q97 := e97
      rw [Act.eval, Array.getD_eq_getD_getElem?] at q97
      refine does_call_ex (want_none rfl) (by go_simp) ((rvoted_any s hs i.round i.block hi.block true W).mono fun e W' hx => ?_)
      obtain ⟨u, h1, h2, h3⟩ := hx
      exact ⟨_, h1, ⟨u, rfl, h2.less (hN ▸ pre.b.size)⟩, h3⟩
    · refine .inl ?_
      have hx : ∃ u, a.eval (.tmp 98) = .tuple #[.agg (St.cells {s with step := 2}).toArray, u] ∧ ROutAt W N u (some ⟨2, i.round, if (true : Bool) = true then i.block else zeros, 0⟩) := pre.val 17 98 (by kernel_rfl) (by kernel_rfl)
      obtain ⟨u, q, ho⟩ := hx
      rw [Act.eval, Array.getD_eq_getD_getElem?] at q
      exact does_val (want_none rfl) (by go_simp) rfl
    · refine .inl ?_
      have hx : ∃ u, a.eval (.tmp 98) = .tuple #[.agg (St.cells {s with step := 2}).toArray, u] ∧ ROutAt W N u (some ⟨2, i.round, if (true : Bool) = true then i.block else zeros, 0⟩) := pre.val 17 98 (by kernel_rfl) (by kernel_rfl)
      obtain ⟨u, q, ho⟩ := hx
      rw [Act.eval, Array.getD_eq_getD_getElem?] at q
      exact does_val (want_none rfl) (by go_simp) ho
  case fin =>
    intro a W hb hsz2 hd hv ho
    have qs : a.eval (.tmp 99) = .agg (St.cells {s with step := 2}).toArray := hv 18 99 (by decide) (by kernel_rfl)
    have qo : ROutAt W N (a.eval (.tmp 100)) (some ⟨2, i.round, if (true : Bool) = true then i.block else zeros, 0⟩) := hv 19 100 (by decide) (by kernel_rfl)
    have q4 : a.eval (.tmp 4) = .pointer (some ⟨gr, 0, none⟩) := ho 4 (no_dst (by kernel_rfl))
    have hs8 : 300 < a.tmps.size := by rw [hsz2]; first | (simp; done) | (show 300 < 301; decide)
    have hbk := (HW.out W hb).2.2
    have hBD : Below gs w w0.drew := HB0.out.trans (by (first | assumption | (repeat (first | exact Below.refl _ _ | assumption | apply Below.drew | apply below_drewN | (refine Below.setCell ?_ (by (try simp) <;> omega) _) | (refine Below.alloc ?_ (by (try simp) <;> omega) _)))))
    have hBl : Below gs w W := hBD.trans (hb.mono (hgs ▸ hBD.size))
    have HBL := Lib.hid hBl
    simp only [List.drop_succ_cons, List.drop_zero]
    have hsl2 := St.cells_len (s := {s with step := 2}) ⟨hs.locked, hs.valid, hs.block⟩
    refine wpList_puts (want_none rfl) 31 _ _ rfl gr 0 q4 (St.cells {s with step := 2}) qs 31 St.zero.cells hbk 102 hsl2 (by rw [St.cells_len St.zero_good]; omega) hi_rstate St.one_cells ?_
    intro w7 hb7 hm7 hz7
    rw [put_all (by rw [St.cells_len St.zero_good]; exact hsl2)] at hb7
    have HB7 := Lib.hid hb7
    have HM7 := Lib.hid hm7
    obtain ⟨vo, hvo⟩ : ∃ v, a.eval (.tmp 100) = v := ⟨_, rfl⟩
    rw [hvo] at qo
    have HO := Lib.hid qo
    have p4 := q4
    have po := hvo
    rw [Act.eval, Array.getD_eq_getD_getElem?] at p4 po
    clear hb7 hm7 qo qs hBl
    go_wp2_with fail
    have go_ : a.tmps[100]'(by omega) = vo := by rw [Array.getElem?_eq_getElem (by omega)] at po; simpa using po
    have HBB := HBL
    have hNg : gr < N := by rw [← hN]; have := hbk.lt; have := HR0.out.drew.lt; omega
    have h1 := Kh1.out
    have h2 := Kh2.out
    have h3 := Kh3.out
    have k2 := Kk2.out
    have hr := Khr.out
    have g0 := Kg0.out
    have hg := Khg.out
    have hbz := Khbz.out
    have hl := Khl.out
    refine bodyPost_ret (rstep_results (s := {s with step := 2}) (⟨hs.locked, hs.valid, hs.block⟩) HB7.out ((set_getD_far (by decide)).trans q4) ((set_getD_same (by omega)).trans go_)) rfl ?_
    exact rstep_end (N := N) HO.out (by omega) (by omega) HM7.out (by rw [hgs]; exact HBB.out) (by first | (simp [stepF, nowF, lockF, lateF, prevF, precF, agreedF, beginOut, h1, h2, h3, k2, hr, g0, hg, hbz, hl]; done) | (simp [stepF, nowF, lockF, lateF, prevF, precF, agreedF, beginOut, h1, h2, h3, k2, hr, g0, hg, hbz, hl]; omega) | (simp [stepF, nowF, lockF, lateF, prevF, precF, agreedF, beginOut, h1, h2, h3, k2, hr, g0, hg, hbz, hl]; intros; omega))

set_option maxRecDepth 100000 in
set_option maxHeartbeats 4000000 in
theorem rstepL_l2d (s : St) (i : In) (w : World) (hs : s.good) (hi : i.fits) (h1 : ¬ i.round < 0) (h2 : ¬ 1048576 < i.round) (h3 : ¬ s.step = 4) (k2 : i.kind = 2) (hr : i.round = s.round) (g0 : s.step = 1) (hg : i.good = true) (hbz : ¬ i.block = zeros) (hl : 0 ≤ s.lr) :
    Calls Tryd.prog 11 #[.agg s.cells.toArray, .agg i.cells.toArray] w (RTold w (stepF s i)) := by
  have Kh1 := Lib.hid h1
  have Kh2 := Lib.hid h2
  have Kh3 := Lib.hid h3
  have Kk2 := Lib.hid k2
  have Khr := Lib.hid hr
  have Kg0 := Lib.hid g0
  have Khg := Lib.hid hg
  have Khbz := Lib.hid hbz
  have Khl := Lib.hid hl
  clear h1 h2 h3 k2 hr g0 hg hbz hl
  have hzs := zero_rstate
  have hz := zeros_len
  have hzl : (bts zeros).length = 32 := by rw [bts_len, zeros_len]
  have hbl : (bts i.block).length = 32 := by rw [bts_len, hi.block]
  have hol : (bts i.own).length = 32 := by rw [bts_len, hi.own]
  have hll : (bts s.locked).length = 32 := by rw [bts_len, hs.locked]
  have hvl : (bts s.valid).length = 32 := by rw [bts_len, hs.valid]
  have hib := hi.block
  have hio := hi.own
  have hsk := hs.locked
  have hcl := In.cells_len hi
  have hsl := St.cells_len hs
  go_enter Tryd.func11, Tryd.ntmps11
  go_upto_region 1 with fail
  have HS0 := Lib.hid (show Bk (((w.alloc (.cells s.cells.toArray 31)).alloc (.cells i.cells.toArray 36)).alloc (.cells St.zero.cells.toArray 31)) w.heap.size 31 s.cells.toArray from ((Bk.new w 31 s.cells.toArray).alloc _).alloc _)
  have HI0 := Lib.hid (show Bk (((w.alloc (.cells s.cells.toArray 31)).alloc (.cells i.cells.toArray 36)).alloc (.cells St.zero.cells.toArray 31)) (w.heap.size + 1) 36 i.cells.toArray from by have := (Bk.new (w.alloc (.cells s.cells.toArray 31)) 36 i.cells.toArray).alloc (.cells St.zero.cells.toArray 31); simpa using this)
  have HR0 := Lib.hid (show Bk (((w.alloc (.cells s.cells.toArray 31)).alloc (.cells i.cells.toArray 36)).alloc (.cells St.zero.cells.toArray 31)) (w.heap.size + 1 + 1) 31 St.zero.cells.toArray from by have := Bk.new ((w.alloc (.cells s.cells.toArray 31)).alloc (.cells i.cells.toArray 36)) 31 St.zero.cells.toArray; simpa using this)
  have HB0 := Lib.hid (show Below w.heap.size w (((w.alloc (.cells s.cells.toArray 31)).alloc (.cells i.cells.toArray 36)).alloc (.cells St.zero.cells.toArray 31)) from (by (first | assumption | (repeat (first | exact Below.refl _ _ | assumption | apply Below.drew | apply below_drewN | (refine Below.setCell ?_ (by (try simp) <;> omega) _) | (refine Below.alloc ?_ (by (try simp) <;> omega) _))))))
  obtain ⟨v0, hv0⟩ : ∃ v0, ((w.alloc (.cells s.cells.toArray 31)).alloc (.cells i.cells.toArray 36)).alloc (.cells St.zero.cells.toArray 31) = v0 := ⟨_, rfl⟩
  have hsz : v0.heap.size = w.heap.size + 1 + 1 + 1 := by rw [← hv0]; simp
  obtain ⟨gs, hgs⟩ : ∃ gs, w.heap.size = gs := ⟨_, rfl⟩
  rw [hv0] at HS0 HI0 HR0 HB0 ⊢
  rw [hgs] at HS0 HI0 HR0 HB0 hsz ⊢
  obtain ⟨gi, hgi⟩ : ∃ gi, gs + 1 = gi := ⟨_, rfl⟩
  rw [hgi] at HI0 HR0 hsz ⊢
  obtain ⟨gr, hgr⟩ : ∃ gr, gi + 1 = gr := ⟨_, rfl⟩
  rw [hgr] at HR0 hsz ⊢
  clear hv0 hzs
  obtain ⟨d0, d1, d2, d34, d35, d36⟩ := in_out HI0.out hi
  go_wp2_with (refine wpList_val (by rfl) (run_load_seg 23 _ (by with_reducible rfl) _ _ (by rfl) _ (by assumption) 32 (by assumption) _ hu_hash (by rfl) hi_hash) ?_)
  with_reducible refine (rempty_any i.block hi.block _).mono ?_
  rintro e v1 ⟨rfl, hb1⟩
  have HS1 := Lib.hid (HS0.out.below hb1 HS0.out.lt)
  have HI1 := Lib.hid (HI0.out.below hb1 HI0.out.lt)
  have HR1 := Lib.hid (HR0.out.below hb1 HR0.out.lt)
  have HB1 := Lib.hid (HB0.out.trans (hb1.mono (by omega)))
  have hz1 := hb1.size
  clear hb1 HS0 HI0 HR0 HB0 d0 d1 d2 d34 d35 d36
  obtain ⟨d0, d1, d2, d34, d35, d36⟩ := in_out HI1.out hi
  go_wp2_with (refine wpList_val (by rfl) (run_load_seg 23 _ (by with_reducible rfl) _ _ (by rfl) _ (by assumption) 32 (by assumption) _ hu_hash (by rfl) hi_hash) ?_)
  with_reducible refine (rempty_any i.own hi.own _).mono ?_
  rintro e w0 ⟨rfl, hb1⟩
  have HS0 := Lib.hid (HS1.out.below hb1 HS1.out.lt)
  have HI0 := Lib.hid (HI1.out.below hb1 HI1.out.lt)
  have HR0 := Lib.hid (HR1.out.below hb1 HR1.out.lt)
  have HB0 : Hid (Below gs w w0) := Lib.hid (HB1.out.trans (hb1.mono (by omega)))
  have hz0 : v0.heap.size ≤ w0.heap.size := Nat.le_trans hz1 hb1.size
  clear hb1 HS1 HI1 HR1 HB1 d0 d1 d2 d34 d35 d36 hz1
  obtain ⟨c0, c1, c2, c34, c35, c67, c68, c100, c101⟩ := st_out HS0.out hs
  obtain ⟨d0, d1, d2, d34, d35, d36⟩ := in_out HI0.out hi
  have h1 := Kh1.out
  have h2 := Kh2.out
  have h3 := Kh3.out
  have k2 := Kk2.out
  have hr := Khr.out
  have g0 := Kg0.out
  have hg := Khg.out
  have hbz := Khbz.out
  have hl := Khl.out
  rw [hg] at d35
  clear h1 h2 h3 k2 hr g0 hg hbz hl
  have h1 := Kh1.out
  have h2 := Kh2.out
  have h3 := Kh3.out
  have k2 := Kk2.out
  have hr := Khr.out
  have g0 := Kg0.out
  have hg := Khg.out
  have hbz := Khbz.out
  have hl := Khl.out
  have el : decide (i.round < 0) = false := by simpa using h1
  have em : decide (1048576 < i.round) = false := by simpa using h2
  have e4 : (s.step == 4) = false := by simpa using h3
  have en1 : (i.kind == 1) = false := by simp [k2]
  have en2 : (i.kind == 2) = true := by simp [k2]
  have en3 : (i.kind == 3) = false := by simp [k2]
  have en4 : (i.kind == 4) = false := by simp [k2]
  have en5 : (i.kind == 5) = false := by simp [k2]
  have en6 : (i.kind == 6) = false := by simp [k2]
  have en7 : (i.kind == 7) = false := by simp [k2]
  have en8 : (i.kind == 8) = false := by simp [k2]
  have en9 : (i.kind == 9) = false := by simp [k2]
  have en10 : (i.kind == 10) = false := by simp [k2]
  have en11 : (i.kind == 11) = false := by simp [k2]
  have en12 : (i.kind == 12) = false := by simp [k2]
  have er : (i.round == s.round) = true := by simp [hr]
  have f0 : (s.step == 1) = true := by simpa using g0
  have eb : (i.block == zeros) = false := by simpa using hbz
  have FLR : decide (s.lr < 0) = false := by simpa using hl
  clear h1 h2 h3 k2 hr g0 hg hbz hl
  go_upto_region 21 with (first | (refine wpList_val (by rfl) (run_load_seg 23 _ (by with_reducible rfl) _ _ (by rfl) _ (by assumption) 32 (by assumption) _ hu_hash (by rfl) hi_hash) ?_))
  clear c0 c1 c2 c34 c35 c67 c68 c100 c101 d0 d1 d2 d34 d35 d36
  obtain ⟨N, hN⟩ : ∃ N, w0.drew.heap.size = N := ⟨_, rfl⟩
  have HW : Hid (∀ W, Below w0.drew.heap.size w0.drew W → Bk W gs 31 (St.cells s).toArray ∧ Bk W gi 36 i.cells.toArray ∧ Bk W gr 31 St.zero.cells.toArray) := Lib.hid (fun W h => ⟨HS0.out.drew.below h (HS0.out.drew.lt), HI0.out.drew.below h (HI0.out.drew.lt), HR0.out.drew.below h (HR0.out.drew.lt)⟩)
  have hgx : (s : St).good := hs
  have hsl1 := St.cells_len (s := s) hgx
  have hbl1 : (bts (s : St).valid).length = 32 := by rw [bts_len, hgx.valid]
  have hkl1 : (bts (s : St).locked).length = 32 := by rw [bts_len, hgx.locked]
  refine wp_region_each_tail 20 (lstV [fun v _ => v = .agg (St.cells s).toArray, fun v _ => v = .int .i64 i.round, fun v _ => v = .pointer (some ⟨gi, 2, none⟩), fun v _ => v = .agg (bts i.block).toArray, fun v _ => v = .bool true, fun v _ => v = .bool true, fun v _ => v = .pointer (some ⟨gs, 34, none⟩), fun v _ => v = .int .i64 (s.lr), fun v _ => v = .bool false, fun v _ => v = .bool false, fun v _ => v = .pointer (some ⟨gs, 2, none⟩), fun v _ => v = .agg (bts s.locked).toArray, fun v _ => v = .pointer (some ⟨gi, 2, none⟩), fun v _ => v = .agg (bts i.block).toArray, fun v _ => v = .bool (i.block == s.locked), fun v _ => v = .bool (i.block == s.locked), fun v _ => v = .bool (i.block == s.locked), fun v W => ∃ u, v = .tuple #[.agg (St.cells {s with step := 2}).toArray, u] ∧ ROutAt W N u (some ⟨2, i.round, if ((i.block == s.locked) : Bool) = true then i.block else zeros, 0⟩), fun v _ => v = .agg (St.cells {s with step := 2}).toArray, fun v W => ROutAt W N v (some ⟨2, i.round, if ((i.block == s.locked) : Bool) = true then i.block else zeros, 0⟩)]) (by kernel_rfl) (by kernel_rfl) (lstV_on (by repeat' (first | exact forall_nil | refine forall_cons ?_ ?_ | exact stays_rout _ _ | exact stays_tup _ _ _ | exact stays_eq _))) ?turns ?fin
  case turns =>
    refine ⟨fun a W pre => ?_, fun a W pre => ?_, fun a W pre => ?_, fun a W pre => ?_, fun a W pre => ?_, fun a W pre => ?_, fun a W pre => ?_, fun a W pre => ?_, fun a W pre => ?_, fun a W pre => ?_, fun a W pre => ?_, fun a W pre => ?_, fun a W pre => ?_, fun a W pre => ?_, fun a W pre => ?_, fun a W pre => ?_, fun a W pre => ?_, fun a W pre => ?_, fun a W pre => ?_, fun a W pre => ?_, trivial⟩
    · refine .inl ?_
      have e2 : a.eval (.tmp 2) = .pointer (some ⟨gs, 0, none⟩) := pre.was 2 (by kernel_rfl) rfl
      have q2 := e2
      rw [Act.eval, Array.getD_eq_getD_getElem?] at q2
      exact does_val (want_none rfl) (run_load_seg 31 _ rfl gs 0 e2 (St.cells s) (HW.out W pre.b).1.all 102 hsl1 _ Tryd.underlying31 rfl hi_rstate) rfl
    · refine .inl ?_
      have e6 : a.eval (.tmp 6) = .int .i64 i.round := pre.was 6 (by kernel_rfl) rfl
      have q6 := e6
      rw [Act.eval, Array.getD_eq_getD_getElem?] at q6
      exact does_val (want_none rfl) (by go_simp) rfl
    · refine .inl ?_
      have e3 : a.eval (.tmp 3) = .pointer (some ⟨gi, 0, none⟩) := pre.was 3 (by kernel_rfl) rfl
      have q3 := e3
      rw [Act.eval, Array.getD_eq_getD_getElem?] at q3
      exact does_val (want_none rfl) (by go_simp) rfl
    · refine .inl ?_
      have e83 : a.eval (.tmp 83) = .pointer (some ⟨gi, 2, none⟩) := pre.val 2 83 (by kernel_rfl) (by kernel_rfl)
      have q83 := e83
      rw [Act.eval, Array.getD_eq_getD_getElem?] at q83
      exact does_val (want_none rfl) (run_load_seg 23 _ rfl gi 2 e83 (bts i.block) ((in_out (HW.out W pre.b).2.1 hi).2.2.1) 32 hbl _ hu_hash rfl hi_hash) rfl
    · refine .inl ?_
      have e9 : a.eval (.tmp 9) = .bool true := pre.was 9 (by kernel_rfl) rfl
      have q9 := e9
      rw [Act.eval, Array.getD_eq_getD_getElem?] at q9
      exact does_val (want_none rfl) (by go_simp) rfl
    · refine .inl ?_
      have e85 : a.eval (.tmp 85) = .bool true := pre.val 4 85 (by kernel_rfl) (by kernel_rfl)
      have q85 := e85
      rw [Act.eval, Array.getD_eq_getD_getElem?] at q85
      exact does_val (want_none rfl) (by go_simp) rfl
    · have hgd : a.tmps.getD 86 undef = .bool true := pre.val 5 86 (by kernel_rfl) (by kernel_rfl)
      have hgs : 86 < a.tmps.size := by rw [pre.size]; first | (simp; done) | (show 86 < 301; decide)
      refine .inl ?_
      have e2 : a.eval (.tmp 2) = .pointer (some ⟨gs, 0, none⟩) := pre.was 2 (by kernel_rfl) rfl
      have q2 := e2
      rw [Act.eval, Array.getD_eq_getD_getElem?] at q2
      exact does_val (want_some rfl (by kernel_rfl) hgs hgd) (by go_simp) rfl
    · have hgd : a.tmps.getD 86 undef = .bool true := pre.val 5 86 (by kernel_rfl) (by kernel_rfl)
      have hgs : 86 < a.tmps.size := by rw [pre.size]; first | (simp; done) | (show 86 < 301; decide)
      refine .inl ?_
      have e87 : a.eval (.tmp 87) = .pointer (some ⟨gs, 34, none⟩) := pre.val 6 87 (by kernel_rfl) (by kernel_rfl)
      have q87 := e87
      rw [Act.eval, Array.getD_eq_getD_getElem?] at q87
      have cc := (st_out (HW.out W pre.b).1 hgx).2.2.2.1
      exact does_val (want_some rfl (by kernel_rfl) hgs hgd) (by go_simp) rfl
    · have hgd : a.tmps.getD 86 undef = .bool true := pre.val 5 86 (by kernel_rfl) (by kernel_rfl)
      have hgs : 86 < a.tmps.size := by rw [pre.size]; first | (simp; done) | (show 86 < 301; decide)
      refine .inl ?_
      have e88 : a.eval (.tmp 88) = .int .i64 (s.lr) := pre.val 7 88 (by kernel_rfl) (by kernel_rfl)
      have q88 := e88
      rw [Act.eval, Array.getD_eq_getD_getElem?] at q88
      have fl := FLR
      exact does_val (want_some rfl (by kernel_rfl) hgs hgd) (by go_simp) rfl
    · have hgd : a.tmps.getD 86 undef = .bool true := pre.val 5 86 (by kernel_rfl) (by kernel_rfl)
      have hgs : 86 < a.tmps.size := by rw [pre.size]; first | (simp; done) | (show 86 < 301; decide)
      refine .inl ?_
      have e89 : a.eval (.tmp 89) = .bool false := pre.val 8 89 (by kernel_rfl) (by kernel_rfl)
      have q89 := e89
      rw [Act.eval, Array.getD_eq_getD_getElem?] at q89
      exact does_val (want_some rfl (by kernel_rfl) hgs hgd) (by go_simp) rfl
    · have hgd : a.tmps.getD 90 undef = .bool false := pre.val 9 90 (by kernel_rfl) (by kernel_rfl)
      have hgs : 90 < a.tmps.size := by rw [pre.size]; first | (simp; done) | (show 90 < 301; decide)
      refine .inl ?_
      have e2 : a.eval (.tmp 2) = .pointer (some ⟨gs, 0, none⟩) := pre.was 2 (by kernel_rfl) rfl
      have q2 := e2
      rw [Act.eval, Array.getD_eq_getD_getElem?] at q2
      exact does_val (want_some rfl (by kernel_rfl) hgs hgd) (by go_simp) rfl
    · have hgd : a.tmps.getD 90 undef = .bool false := pre.val 9 90 (by kernel_rfl) (by kernel_rfl)
      have hgs : 90 < a.tmps.size := by rw [pre.size]; first | (simp; done) | (show 90 < 301; decide)
      refine .inl ?_
      have e91 : a.eval (.tmp 91) = .pointer (some ⟨gs, 2, none⟩) := pre.val 10 91 (by kernel_rfl) (by kernel_rfl)
      have q91 := e91
      rw [Act.eval, Array.getD_eq_getD_getElem?] at q91
      exact does_val (want_some rfl (by kernel_rfl) hgs hgd) (run_load_seg 23 _ rfl gs 2 e91 (bts s.locked) ((st_out (HW.out W pre.b).1 hgx).2.2.1) 32 hll _ hu_hash rfl hi_hash) rfl
    · have hgd : a.tmps.getD 90 undef = .bool false := pre.val 9 90 (by kernel_rfl) (by kernel_rfl)
      have hgs : 90 < a.tmps.size := by rw [pre.size]; first | (simp; done) | (show 90 < 301; decide)
      refine .inl ?_
      have e3 : a.eval (.tmp 3) = .pointer (some ⟨gi, 0, none⟩) := pre.was 3 (by kernel_rfl) rfl
      have q3 := e3
      rw [Act.eval, Array.getD_eq_getD_getElem?] at q3
      exact does_val (want_some rfl (by kernel_rfl) hgs hgd) (by go_simp) rfl
    · have hgd : a.tmps.getD 90 undef = .bool false := pre.val 9 90 (by kernel_rfl) (by kernel_rfl)
      have hgs : 90 < a.tmps.size := by rw [pre.size]; first | (simp; done) | (show 90 < 301; decide)
      refine .inl ?_
      have e93 : a.eval (.tmp 93) = .pointer (some ⟨gi, 2, none⟩) := pre.val 12 93 (by kernel_rfl) (by kernel_rfl)
      have q93 := e93
      rw [Act.eval, Array.getD_eq_getD_getElem?] at q93
      exact does_val (want_some rfl (by kernel_rfl) hgs hgd) (run_load_seg 23 _ rfl gi 2 e93 (bts i.block) ((in_out (HW.out W pre.b).2.1 hi).2.2.1) 32 hbl _ hu_hash rfl hi_hash) rfl
    · have hgd : a.tmps.getD 90 undef = .bool false := pre.val 9 90 (by kernel_rfl) (by kernel_rfl)
      have hgs : 90 < a.tmps.size := by rw [pre.size]; first | (simp; done) | (show 90 < 301; decide)
      refine .inl ?_
      have e92 : a.eval (.tmp 92) = .agg (bts s.locked).toArray := pre.val 11 92 (by kernel_rfl) (by kernel_rfl)
      have q92 := e92
      rw [Act.eval, Array.getD_eq_getD_getElem?] at q92
      have e94 : a.eval (.tmp 94) = .agg (bts i.block).toArray := pre.val 13 94 (by kernel_rfl) (by kernel_rfl)
      have q94 := e94
      rw [Act.eval, Array.getD_eq_getD_getElem?] at q94
      refine does_val (want_some rfl (by kernel_rfl) hgs hgd) ((run_bytes_eql 23 5 _ _ _ rfl 32 hu_hash Tryd.underlying5 hs_u8 hm_hash s.locked i.block e92 e94 hsk hib).trans ?_) rfl
      rw [BEq.comm (a := s.locked)]
    · have hgd : a.tmps.getD 86 undef = .bool true := pre.val 5 86 (by kernel_rfl) (by kernel_rfl)
      have hgs : 86 < a.tmps.size := by rw [pre.size]; first | (simp; done) | (show 86 < 301; decide)
      refine .inl ?_
      have e90 : a.eval (.tmp 90) = .bool false := pre.val 9 90 (by kernel_rfl) (by kernel_rfl)
      have q90 := e90
      rw [Act.eval, Array.getD_eq_getD_getElem?] at q90
      have e95 : a.eval (.tmp 95) = .bool (i.block == s.locked) := pre.val 14 95 (by kernel_rfl) (by kernel_rfl)
      have q95 := e95
      rw [Act.eval, Array.getD_eq_getD_getElem?] at q95
      exact does_val (want_some rfl (by kernel_rfl) hgs hgd) (by go_simp) rfl
    · refine .inl ?_
      have e86 : a.eval (.tmp 86) = .bool true := pre.val 5 86 (by kernel_rfl) (by kernel_rfl)
      have q86 := e86
      rw [Act.eval, Array.getD_eq_getD_getElem?] at q86
      have e96 : a.eval (.tmp 96) = .bool (i.block == s.locked) := pre.val 15 96 (by kernel_rfl) (by kernel_rfl)
      have q96 := e96
      rw [Act.eval, Array.getD_eq_getD_getElem?] at q96
      exact does_val (want_none rfl) (by go_simp) rfl
    · refine .inl ?_
      have e81 : a.eval (.tmp 81) = .agg (St.cells s).toArray := pre.val 0 81 (by kernel_rfl) (by kernel_rfl)
      have q81 := e81
      rw [Act.eval, Array.getD_eq_getD_getElem?] at q81
      have e82 : a.eval (.tmp 82) = .int .i64 i.round := pre.val 1 82 (by kernel_rfl) (by kernel_rfl)
      have q82 := e82
      rw [Act.eval, Array.getD_eq_getD_getElem?] at q82
      have e84 : a.eval (.tmp 84) = .agg (bts i.block).toArray := pre.val 3 84 (by kernel_rfl) (by kernel_rfl)
      have q84 := e84
      rw [Act.eval, Array.getD_eq_getD_getElem?] at q84
      have e97 : a.eval (.tmp 97) = .bool (i.block == s.locked) := pre.val 16 97 (by kernel_rfl) (by kernel_rfl)
      have q97 := e97
      rw [Act.eval, Array.getD_eq_getD_getElem?] at q97
      refine does_call_ex (want_none rfl) (by go_simp) ((rvoted_any s hs i.round i.block hi.block (i.block == s.locked) W).mono fun e W' hx => ?_)
      obtain ⟨u, h1, h2, h3⟩ := hx
      exact ⟨_, h1, ⟨u, rfl, h2.less (hN ▸ pre.b.size)⟩, h3⟩
    · refine .inl ?_
      have hx : ∃ u, a.eval (.tmp 98) = .tuple #[.agg (St.cells {s with step := 2}).toArray, u] ∧ ROutAt W N u (some ⟨2, i.round, if ((i.block == s.locked) : Bool) = true then i.block else zeros, 0⟩) := pre.val 17 98 (by kernel_rfl) (by kernel_rfl)
      obtain ⟨u, q, ho⟩ := hx
      rw [Act.eval, Array.getD_eq_getD_getElem?] at q
      exact does_val (want_none rfl) (by go_simp) rfl
    · refine .inl ?_
      have hx : ∃ u, a.eval (.tmp 98) = .tuple #[.agg (St.cells {s with step := 2}).toArray, u] ∧ ROutAt W N u (some ⟨2, i.round, if ((i.block == s.locked) : Bool) = true then i.block else zeros, 0⟩) := pre.val 17 98 (by kernel_rfl) (by kernel_rfl)
      obtain ⟨u, q, ho⟩ := hx
      rw [Act.eval, Array.getD_eq_getD_getElem?] at q
      exact does_val (want_none rfl) (by go_simp) ho
  case fin =>
    intro a W hb hsz2 hd hv ho
    have qs : a.eval (.tmp 99) = .agg (St.cells {s with step := 2}).toArray := hv 18 99 (by decide) (by kernel_rfl)
    have qo : ROutAt W N (a.eval (.tmp 100)) (some ⟨2, i.round, if ((i.block == s.locked) : Bool) = true then i.block else zeros, 0⟩) := hv 19 100 (by decide) (by kernel_rfl)
    have q4 : a.eval (.tmp 4) = .pointer (some ⟨gr, 0, none⟩) := ho 4 (no_dst (by kernel_rfl))
    have hs8 : 300 < a.tmps.size := by rw [hsz2]; first | (simp; done) | (show 300 < 301; decide)
    have hbk := (HW.out W hb).2.2
    have hBD : Below gs w w0.drew := HB0.out.trans (by (first | assumption | (repeat (first | exact Below.refl _ _ | assumption | apply Below.drew | apply below_drewN | (refine Below.setCell ?_ (by (try simp) <;> omega) _) | (refine Below.alloc ?_ (by (try simp) <;> omega) _)))))
    have hBl : Below gs w W := hBD.trans (hb.mono (hgs ▸ hBD.size))
    have HBL := Lib.hid hBl
    simp only [List.drop_succ_cons, List.drop_zero]
    have hsl2 := St.cells_len (s := {s with step := 2}) ⟨hs.locked, hs.valid, hs.block⟩
    refine wpList_puts (want_none rfl) 31 _ _ rfl gr 0 q4 (St.cells {s with step := 2}) qs 31 St.zero.cells hbk 102 hsl2 (by rw [St.cells_len St.zero_good]; omega) hi_rstate St.one_cells ?_
    intro w7 hb7 hm7 hz7
    rw [put_all (by rw [St.cells_len St.zero_good]; exact hsl2)] at hb7
    have HB7 := Lib.hid hb7
    have HM7 := Lib.hid hm7
    obtain ⟨vo, hvo⟩ : ∃ v, a.eval (.tmp 100) = v := ⟨_, rfl⟩
    rw [hvo] at qo
    have HO := Lib.hid qo
    have p4 := q4
    have po := hvo
    rw [Act.eval, Array.getD_eq_getD_getElem?] at p4 po
    clear hb7 hm7 qo qs hBl
    go_wp2_with fail
    have go_ : a.tmps[100]'(by omega) = vo := by rw [Array.getElem?_eq_getElem (by omega)] at po; simpa using po
    have HBB := HBL
    have hNg : gr < N := by rw [← hN]; have := hbk.lt; have := HR0.out.drew.lt; omega
    have h1 := Kh1.out
    have h2 := Kh2.out
    have h3 := Kh3.out
    have k2 := Kk2.out
    have hr := Khr.out
    have g0 := Kg0.out
    have hg := Khg.out
    have hbz := Khbz.out
    have hl := Khl.out
    refine bodyPost_ret (rstep_results (s := {s with step := 2}) (⟨hs.locked, hs.valid, hs.block⟩) HB7.out ((set_getD_far (by decide)).trans q4) ((set_getD_same (by omega)).trans go_)) rfl ?_
    exact rstep_end (N := N) HO.out (by omega) (by omega) HM7.out (by rw [hgs]; exact HBB.out) (by first | (simp [stepF, nowF, lockF, lateF, prevF, precF, agreedF, beginOut, h1, h2, h3, k2, hr, g0, hg, hbz, Int.not_lt.2 hl]; done) | (simp [stepF, nowF, lockF, lateF, prevF, precF, agreedF, beginOut, h1, h2, h3, k2, hr, g0, hg, hbz, Int.not_lt.2 hl]; omega) | (simp [stepF, nowF, lockF, lateF, prevF, precF, agreedF, beginOut, h1, h2, h3, k2, hr, g0, hg, hbz, Int.not_lt.2 hl]; intros; omega))

set_option maxRecDepth 100000 in
set_option maxHeartbeats 4000000 in
theorem rstepL_l3a (s : St) (i : In) (w : World) (hs : s.good) (hi : i.fits) (h1 : ¬ i.round < 0) (h2 : ¬ 1048576 < i.round) (h3 : ¬ s.step = 4) (k3 : i.kind = 3) (hr : i.round = s.round) (g0 : s.step = 1) (v0 : 0 ≤ i.valid) (v1 : i.valid < i.round) (hg : i.good = false) :
    Calls Tryd.prog 11 #[.agg s.cells.toArray, .agg i.cells.toArray] w (RTold w (stepF s i)) := by
  have Kh1 := Lib.hid h1
  have Kh2 := Lib.hid h2
  have Kh3 := Lib.hid h3
  have Kk3 := Lib.hid k3
  have Khr := Lib.hid hr
  have Kg0 := Lib.hid g0
  have Kv0 := Lib.hid v0
  have Kv1 := Lib.hid v1
  have Khg := Lib.hid hg
  clear h1 h2 h3 k3 hr g0 v0 v1 hg
  have hzs := zero_rstate
  have hz := zeros_len
  have hzl : (bts zeros).length = 32 := by rw [bts_len, zeros_len]
  have hbl : (bts i.block).length = 32 := by rw [bts_len, hi.block]
  have hol : (bts i.own).length = 32 := by rw [bts_len, hi.own]
  have hll : (bts s.locked).length = 32 := by rw [bts_len, hs.locked]
  have hvl : (bts s.valid).length = 32 := by rw [bts_len, hs.valid]
  have hib := hi.block
  have hio := hi.own
  have hsk := hs.locked
  have hcl := In.cells_len hi
  have hsl := St.cells_len hs
  go_enter Tryd.func11, Tryd.ntmps11
  go_upto_region 1 with fail
  have HS0 := Lib.hid (show Bk (((w.alloc (.cells s.cells.toArray 31)).alloc (.cells i.cells.toArray 36)).alloc (.cells St.zero.cells.toArray 31)) w.heap.size 31 s.cells.toArray from ((Bk.new w 31 s.cells.toArray).alloc _).alloc _)
  have HI0 := Lib.hid (show Bk (((w.alloc (.cells s.cells.toArray 31)).alloc (.cells i.cells.toArray 36)).alloc (.cells St.zero.cells.toArray 31)) (w.heap.size + 1) 36 i.cells.toArray from by have := (Bk.new (w.alloc (.cells s.cells.toArray 31)) 36 i.cells.toArray).alloc (.cells St.zero.cells.toArray 31); simpa using this)
  have HR0 := Lib.hid (show Bk (((w.alloc (.cells s.cells.toArray 31)).alloc (.cells i.cells.toArray 36)).alloc (.cells St.zero.cells.toArray 31)) (w.heap.size + 1 + 1) 31 St.zero.cells.toArray from by have := Bk.new ((w.alloc (.cells s.cells.toArray 31)).alloc (.cells i.cells.toArray 36)) 31 St.zero.cells.toArray; simpa using this)
  have HB0 := Lib.hid (show Below w.heap.size w (((w.alloc (.cells s.cells.toArray 31)).alloc (.cells i.cells.toArray 36)).alloc (.cells St.zero.cells.toArray 31)) from (by (first | assumption | (repeat (first | exact Below.refl _ _ | assumption | apply Below.drew | apply below_drewN | (refine Below.setCell ?_ (by (try simp) <;> omega) _) | (refine Below.alloc ?_ (by (try simp) <;> omega) _))))))
  obtain ⟨v0, hv0⟩ : ∃ v0, ((w.alloc (.cells s.cells.toArray 31)).alloc (.cells i.cells.toArray 36)).alloc (.cells St.zero.cells.toArray 31) = v0 := ⟨_, rfl⟩
  have hsz : v0.heap.size = w.heap.size + 1 + 1 + 1 := by rw [← hv0]; simp
  obtain ⟨gs, hgs⟩ : ∃ gs, w.heap.size = gs := ⟨_, rfl⟩
  rw [hv0] at HS0 HI0 HR0 HB0 ⊢
  rw [hgs] at HS0 HI0 HR0 HB0 hsz ⊢
  obtain ⟨gi, hgi⟩ : ∃ gi, gs + 1 = gi := ⟨_, rfl⟩
  rw [hgi] at HI0 HR0 hsz ⊢
  obtain ⟨gr, hgr⟩ : ∃ gr, gi + 1 = gr := ⟨_, rfl⟩
  rw [hgr] at HR0 hsz ⊢
  clear hv0 hzs
  obtain ⟨d0, d1, d2, d34, d35, d36⟩ := in_out HI0.out hi
  go_wp2_with (refine wpList_val (by rfl) (run_load_seg 23 _ (by with_reducible rfl) _ _ (by rfl) _ (by assumption) 32 (by assumption) _ hu_hash (by rfl) hi_hash) ?_)
  with_reducible refine (rempty_any i.block hi.block _).mono ?_
  rintro e v1 ⟨rfl, hb1⟩
  have HS1 := Lib.hid (HS0.out.below hb1 HS0.out.lt)
  have HI1 := Lib.hid (HI0.out.below hb1 HI0.out.lt)
  have HR1 := Lib.hid (HR0.out.below hb1 HR0.out.lt)
  have HB1 := Lib.hid (HB0.out.trans (hb1.mono (by omega)))
  have hz1 := hb1.size
  clear hb1 HS0 HI0 HR0 HB0 d0 d1 d2 d34 d35 d36
  obtain ⟨d0, d1, d2, d34, d35, d36⟩ := in_out HI1.out hi
  go_wp2_with (refine wpList_val (by rfl) (run_load_seg 23 _ (by with_reducible rfl) _ _ (by rfl) _ (by assumption) 32 (by assumption) _ hu_hash (by rfl) hi_hash) ?_)
  with_reducible refine (rempty_any i.own hi.own _).mono ?_
  rintro e w0 ⟨rfl, hb1⟩
  have HS0 := Lib.hid (HS1.out.below hb1 HS1.out.lt)
  have HI0 := Lib.hid (HI1.out.below hb1 HI1.out.lt)
  have HR0 := Lib.hid (HR1.out.below hb1 HR1.out.lt)
  have HB0 : Hid (Below gs w w0) := Lib.hid (HB1.out.trans (hb1.mono (by omega)))
  have hz0 : v0.heap.size ≤ w0.heap.size := Nat.le_trans hz1 hb1.size
  clear hb1 HS1 HI1 HR1 HB1 d0 d1 d2 d34 d35 d36 hz1
  obtain ⟨c0, c1, c2, c34, c35, c67, c68, c100, c101⟩ := st_out HS0.out hs
  obtain ⟨d0, d1, d2, d34, d35, d36⟩ := in_out HI0.out hi
  have h1 := Kh1.out
  have h2 := Kh2.out
  have h3 := Kh3.out
  have k3 := Kk3.out
  have hr := Khr.out
  have g0 := Kg0.out
  have v0 := Kv0.out
  have v1 := Kv1.out
  have hg := Khg.out
  rw [hg] at d35
  clear h1 h2 h3 k3 hr g0 v0 v1 hg
  have h1 := Kh1.out
  have h2 := Kh2.out
  have h3 := Kh3.out
  have k3 := Kk3.out
  have hr := Khr.out
  have g0 := Kg0.out
  have v0 := Kv0.out
  have v1 := Kv1.out
  have hg := Khg.out
  have el : decide (i.round < 0) = false := by simpa using h1
  have em : decide (1048576 < i.round) = false := by simpa using h2
  have e4 : (s.step == 4) = false := by simpa using h3
  have en1 : (i.kind == 1) = false := by simp [k3]
  have en2 : (i.kind == 2) = false := by simp [k3]
  have en3 : (i.kind == 3) = true := by simp [k3]
  have en4 : (i.kind == 4) = false := by simp [k3]
  have en5 : (i.kind == 5) = false := by simp [k3]
  have en6 : (i.kind == 6) = false := by simp [k3]
  have en7 : (i.kind == 7) = false := by simp [k3]
  have en8 : (i.kind == 8) = false := by simp [k3]
  have en9 : (i.kind == 9) = false := by simp [k3]
  have en10 : (i.kind == 10) = false := by simp [k3]
  have en11 : (i.kind == 11) = false := by simp [k3]
  have en12 : (i.kind == 12) = false := by simp [k3]
  have er : (i.round == s.round) = true := by simp [hr]
  have f0 : (s.step == 1) = true := by simpa using g0
  have fv0 : decide (0 ≤ i.valid) = true := by simpa using v0
  have fv1 : decide (i.valid < i.round) = true := by simpa using v1
  clear h1 h2 h3 k3 hr g0 v0 v1 hg
  go_upto_region 24 with (first | (refine wpList_val (by rfl) (run_load_seg 23 _ (by with_reducible rfl) _ _ (by rfl) _ (by assumption) 32 (by assumption) _ hu_hash (by rfl) hi_hash) ?_))
  clear c0 c1 c2 c34 c35 c67 c68 c100 c101 d0 d1 d2 d34 d35 d36
  obtain ⟨N, hN⟩ : ∃ N, w0.drew.heap.size = N := ⟨_, rfl⟩
  have HW : Hid (∀ W, Below w0.drew.heap.size w0.drew W → Bk W gs 31 (St.cells s).toArray ∧ Bk W gi 36 i.cells.toArray ∧ Bk W gr 31 St.zero.cells.toArray) := Lib.hid (fun W h => ⟨HS0.out.drew.below h (HS0.out.drew.lt), HI0.out.drew.below h (HI0.out.drew.lt), HR0.out.drew.below h (HR0.out.drew.lt)⟩)
  have hgx : (s : St).good := hs
  have hsl1 := St.cells_len (s := s) hgx
  have hbl1 : (bts (s : St).valid).length = 32 := by rw [bts_len, hgx.valid]
  have hkl1 : (bts (s : St).locked).length = 32 := by rw [bts_len, hgx.locked]
  refine wp_region_each_tail 22 (lstV [fun v _ => v = .agg (St.cells s).toArray, fun v _ => v = .int .i64 i.round, fun v _ => v = .pointer (some ⟨gi, 2, none⟩), fun v _ => v = .agg (bts i.block).toArray, fun v _ => v = .bool false, fun v _ => v = .bool false, fun v _ => v = undef, fun v _ => v = undef, fun v _ => v = undef, fun v _ => v = undef, fun v _ => v = undef, fun v _ => v = undef, fun v _ => v = undef, fun v _ => v = undef, fun v _ => v = undef, fun v _ => v = undef, fun v _ => v = undef, fun v _ => v = undef, fun v _ => v = .bool false, fun v W => ∃ u, v = .tuple #[.agg (St.cells {s with step := 2}).toArray, u] ∧ ROutAt W N u (some ⟨2, i.round, if (false : Bool) = true then i.block else zeros, 0⟩), fun v _ => v = .agg (St.cells {s with step := 2}).toArray, fun v W => ROutAt W N v (some ⟨2, i.round, if (false : Bool) = true then i.block else zeros, 0⟩)]) (by kernel_rfl) (by kernel_rfl) (lstV_on (by repeat' (first | exact forall_nil | refine forall_cons ?_ ?_ | exact stays_rout _ _ | exact stays_tup _ _ _ | exact stays_eq _))) ?turns ?fin
  case turns =>
    refine ⟨fun a W pre => ?_, fun a W pre => ?_, fun a W pre => ?_, fun a W pre => ?_, fun a W pre => ?_, fun a W pre => ?_, fun a W pre => ?_, fun a W pre => ?_, fun a W pre => ?_, fun a W pre => ?_, fun a W pre => ?_, fun a W pre => ?_, fun a W pre => ?_, fun a W pre => ?_, fun a W pre => ?_, fun a W pre => ?_, fun a W pre => ?_, fun a W pre => ?_, fun a W pre => ?_, fun a W pre => ?_, fun a W pre => ?_, fun a W pre => ?_, trivial⟩
    · refine .inl ?_
      have e2 : a.eval (.tmp 2) = .pointer (some ⟨gs, 0, none⟩) := pre.was 2 (by kernel_rfl) rfl
      have q2 := e2
      rw [Act.eval, Array.getD_eq_getD_getElem?] at q2
      exact does_val (want_none rfl) (run_load_seg 31 _ rfl gs 0 e2 (St.cells s) (HW.out W pre.b).1.all 102 hsl1 _ Tryd.underlying31 rfl hi_rstate) rfl
    · refine .inl ?_
      have e6 : a.eval (.tmp 6) = .int .i64 i.round := pre.was 6 (by kernel_rfl) rfl
      have q6 := e6
      rw [Act.eval, Array.getD_eq_getD_getElem?] at q6
      exact does_val (want_none rfl) (by go_simp) rfl
    · refine .inl ?_
      have e3 : a.eval (.tmp 3) = .pointer (some ⟨gi, 0, none⟩) := pre.was 3 (by kernel_rfl) rfl
      have q3 := e3
      rw [Act.eval, Array.getD_eq_getD_getElem?] at q3
      exact does_val (want_none rfl) (by go_simp) rfl
    · refine .inl ?_
      have e122 : a.eval (.tmp 122) = .pointer (some ⟨gi, 2, none⟩) := pre.val 2 122 (by kernel_rfl) (by kernel_rfl)
      have q122 := e122
      rw [Act.eval, Array.getD_eq_getD_getElem?] at q122
      exact does_val (want_none rfl) (run_load_seg 23 _ rfl gi 2 e122 (bts i.block) ((in_out (HW.out W pre.b).2.1 hi).2.2.1) 32 hbl _ hu_hash rfl hi_hash) rfl
    · refine .inl ?_
      have e9 : a.eval (.tmp 9) = .bool false := pre.was 9 (by kernel_rfl) rfl
      have q9 := e9
      rw [Act.eval, Array.getD_eq_getD_getElem?] at q9
      exact does_val (want_none rfl) (by go_simp) rfl
    · refine .inl ?_
      have e124 : a.eval (.tmp 124) = .bool false := pre.val 4 124 (by kernel_rfl) (by kernel_rfl)
      have q124 := e124
      rw [Act.eval, Array.getD_eq_getD_getElem?] at q124
      exact does_val (want_none rfl) (by go_simp) rfl
    · have hgd : a.tmps.getD 125 undef = .bool false := pre.val 5 125 (by kernel_rfl) (by kernel_rfl)
      have hgs : 125 < a.tmps.size := by rw [pre.size]; first | (simp; done) | (show 125 < 301; decide)
      exact .inr ⟨skip_bool rfl (by kernel_rfl) hgs hgd, rfl⟩
    · have hgd : a.tmps.getD 125 undef = .bool false := pre.val 5 125 (by kernel_rfl) (by kernel_rfl)
      have hgs : 125 < a.tmps.size := by rw [pre.size]; first | (simp; done) | (show 125 < 301; decide)
      exact .inr ⟨skip_bool rfl (by kernel_rfl) hgs hgd, rfl⟩
    · have hgd : a.tmps.getD 125 undef = .bool false := pre.val 5 125 (by kernel_rfl) (by kernel_rfl)
      have hgs : 125 < a.tmps.size := by rw [pre.size]; first | (simp; done) | (show 125 < 301; decide)
      exact .inr ⟨skip_bool rfl (by kernel_rfl) hgs hgd, rfl⟩
    · have hgd : a.tmps.getD 125 undef = .bool false := pre.val 5 125 (by kernel_rfl) (by kernel_rfl)
      have hgs : 125 < a.tmps.size := by rw [pre.size]; first | (simp; done) | (show 125 < 301; decide)
      exact .inr ⟨skip_bool rfl (by kernel_rfl) hgs hgd, rfl⟩
    · have hgd : a.tmps.getD 125 undef = .bool false := pre.val 5 125 (by kernel_rfl) (by kernel_rfl)
      have hgs : 125 < a.tmps.size := by rw [pre.size]; first | (simp; done) | (show 125 < 301; decide)
      exact .inr ⟨skip_bool rfl (by kernel_rfl) hgs hgd, rfl⟩
    · have hgd : a.tmps.getD 125 undef = .bool false := pre.val 5 125 (by kernel_rfl) (by kernel_rfl)
      have hgs : 125 < a.tmps.size := by rw [pre.size]; first | (simp; done) | (show 125 < 301; decide)
      exact .inr ⟨skip_bool rfl (by kernel_rfl) hgs hgd, rfl⟩
    · have hgd : a.tmps.getD 131 undef = undef := pre.val 11 131 (by kernel_rfl) (by kernel_rfl)
      have hgs : 131 < a.tmps.size := by rw [pre.size]; first | (simp; done) | (show 131 < 301; decide)
      exact .inr ⟨skip_undef rfl (by kernel_rfl) hgs hgd, rfl⟩
    · have hgd : a.tmps.getD 131 undef = undef := pre.val 11 131 (by kernel_rfl) (by kernel_rfl)
      have hgs : 131 < a.tmps.size := by rw [pre.size]; first | (simp; done) | (show 131 < 301; decide)
      exact .inr ⟨skip_undef rfl (by kernel_rfl) hgs hgd, rfl⟩
    · have hgd : a.tmps.getD 131 undef = undef := pre.val 11 131 (by kernel_rfl) (by kernel_rfl)
      have hgs : 131 < a.tmps.size := by rw [pre.size]; first | (simp; done) | (show 131 < 301; decide)
      exact .inr ⟨skip_undef rfl (by kernel_rfl) hgs hgd, rfl⟩
    · have hgd : a.tmps.getD 131 undef = undef := pre.val 11 131 (by kernel_rfl) (by kernel_rfl)
      have hgs : 131 < a.tmps.size := by rw [pre.size]; first | (simp; done) | (show 131 < 301; decide)
      exact .inr ⟨skip_undef rfl (by kernel_rfl) hgs hgd, rfl⟩
    · have hgd : a.tmps.getD 131 undef = undef := pre.val 11 131 (by kernel_rfl) (by kernel_rfl)
      have hgs : 131 < a.tmps.size := by rw [pre.size]; first | (simp; done) | (show 131 < 301; decide)
      exact .inr ⟨skip_undef rfl (by kernel_rfl) hgs hgd, rfl⟩
    · have hgd : a.tmps.getD 125 undef = .bool false := pre.val 5 125 (by kernel_rfl) (by kernel_rfl)
      have hgs : 125 < a.tmps.size := by rw [pre.size]; first | (simp; done) | (show 125 < 301; decide)
      exact .inr ⟨skip_bool rfl (by kernel_rfl) hgs hgd, rfl⟩
    · refine .inl ?_
      have e125 : a.eval (.tmp 125) = .bool false := pre.val 5 125 (by kernel_rfl) (by kernel_rfl)
      have q125 := e125
      rw [Act.eval, Array.getD_eq_getD_getElem?] at q125
      exact does_val (want_none rfl) (by go_simp) rfl
    · refine .inl ?_
      have e120 : a.eval (.tmp 120) = .agg (St.cells s).toArray := pre.val 0 120 (by kernel_rfl) (by kernel_rfl)
      have q120 := e120
      rw [Act.eval, Array.getD_eq_getD_getElem?] at q120
      have e121 : a.eval (.tmp 121) = .int .i64 i.round := pre.val 1 121 (by kernel_rfl) (by kernel_rfl)
      have q121 := e121
      rw [Act.eval, Array.getD_eq_getD_getElem?] at q121
      have e123 : a.eval (.tmp 123) = .agg (bts i.block).toArray := pre.val 3 123 (by kernel_rfl) (by kernel_rfl)
      have q123 := e123
      rw [Act.eval, Array.getD_eq_getD_getElem?] at q123
      have e138 : a.eval (.tmp 138) = .bool false := pre.val 18 138 (by kernel_rfl) (by kernel_rfl)
      have q138 := e138
      rw [Act.eval, Array.getD_eq_getD_getElem?] at q138
      refine does_call_ex (want_none rfl) (by go_simp) ((rvoted_any s hs i.round i.block hi.block false W).mono fun e W' hx => ?_)
      obtain ⟨u, h1, h2, h3⟩ := hx
      exact ⟨_, h1, ⟨u, rfl, h2.less (hN ▸ pre.b.size)⟩, h3⟩
    · refine .inl ?_
      have hx : ∃ u, a.eval (.tmp 139) = .tuple #[.agg (St.cells {s with step := 2}).toArray, u] ∧ ROutAt W N u (some ⟨2, i.round, if (false : Bool) = true then i.block else zeros, 0⟩) := pre.val 19 139 (by kernel_rfl) (by kernel_rfl)
      obtain ⟨u, q, ho⟩ := hx
      rw [Act.eval, Array.getD_eq_getD_getElem?] at q
      exact does_val (want_none rfl) (by go_simp) rfl
    · refine .inl ?_
      have hx : ∃ u, a.eval (.tmp 139) = .tuple #[.agg (St.cells {s with step := 2}).toArray, u] ∧ ROutAt W N u (some ⟨2, i.round, if (false : Bool) = true then i.block else zeros, 0⟩) := pre.val 19 139 (by kernel_rfl) (by kernel_rfl)
      obtain ⟨u, q, ho⟩ := hx
      rw [Act.eval, Array.getD_eq_getD_getElem?] at q
      exact does_val (want_none rfl) (by go_simp) ho
  case fin =>
    intro a W hb hsz2 hd hv ho
    have qs : a.eval (.tmp 140) = .agg (St.cells {s with step := 2}).toArray := hv 20 140 (by decide) (by kernel_rfl)
    have qo : ROutAt W N (a.eval (.tmp 141)) (some ⟨2, i.round, if (false : Bool) = true then i.block else zeros, 0⟩) := hv 21 141 (by decide) (by kernel_rfl)
    have q4 : a.eval (.tmp 4) = .pointer (some ⟨gr, 0, none⟩) := ho 4 (no_dst (by kernel_rfl))
    have hs8 : 300 < a.tmps.size := by rw [hsz2]; first | (simp; done) | (show 300 < 301; decide)
    have hbk := (HW.out W hb).2.2
    have hBD : Below gs w w0.drew := HB0.out.trans (by (first | assumption | (repeat (first | exact Below.refl _ _ | assumption | apply Below.drew | apply below_drewN | (refine Below.setCell ?_ (by (try simp) <;> omega) _) | (refine Below.alloc ?_ (by (try simp) <;> omega) _)))))
    have hBl : Below gs w W := hBD.trans (hb.mono (hgs ▸ hBD.size))
    have HBL := Lib.hid hBl
    simp only [List.drop_succ_cons, List.drop_zero]
    have hsl2 := St.cells_len (s := {s with step := 2}) ⟨hs.locked, hs.valid, hs.block⟩
    refine wpList_puts (want_none rfl) 31 _ _ rfl gr 0 q4 (St.cells {s with step := 2}) qs 31 St.zero.cells hbk 102 hsl2 (by rw [St.cells_len St.zero_good]; omega) hi_rstate St.one_cells ?_
    intro w7 hb7 hm7 hz7
    rw [put_all (by rw [St.cells_len St.zero_good]; exact hsl2)] at hb7
    have HB7 := Lib.hid hb7
    have HM7 := Lib.hid hm7
    obtain ⟨vo, hvo⟩ : ∃ v, a.eval (.tmp 141) = v := ⟨_, rfl⟩
    rw [hvo] at qo
    have HO := Lib.hid qo
    have p4 := q4
    have po := hvo
    rw [Act.eval, Array.getD_eq_getD_getElem?] at p4 po
    clear hb7 hm7 qo qs hBl
    go_wp2_with fail
    have go_ : a.tmps[141]'(by omega) = vo := by rw [Array.getElem?_eq_getElem (by omega)] at po; simpa using po
    have HBB := HBL
    have hNg : gr < N := by rw [← hN]; have := hbk.lt; have := HR0.out.drew.lt; omega
    have h1 := Kh1.out
    have h2 := Kh2.out
    have h3 := Kh3.out
    have k3 := Kk3.out
    have hr := Khr.out
    have g0 := Kg0.out
    have v0 := Kv0.out
    have v1 := Kv1.out
    have hg := Khg.out
    refine bodyPost_ret (rstep_results (s := {s with step := 2}) (⟨hs.locked, hs.valid, hs.block⟩) HB7.out ((set_getD_far (by decide)).trans q4) ((set_getD_same (by omega)).trans go_)) rfl ?_
    exact rstep_end (N := N) HO.out (by omega) (by omega) HM7.out (by rw [hgs]; exact HBB.out) (by first | (simp [stepF, nowF, lockF, lateF, prevF, precF, agreedF, beginOut, h1, h2, h3, k3, hr, g0, v0, show i.valid < s.round from hr ▸ v1, hg]; done) | (simp [stepF, nowF, lockF, lateF, prevF, precF, agreedF, beginOut, h1, h2, h3, k3, hr, g0, v0, show i.valid < s.round from hr ▸ v1, hg]; omega) | (simp [stepF, nowF, lockF, lateF, prevF, precF, agreedF, beginOut, h1, h2, h3, k3, hr, g0, v0, show i.valid < s.round from hr ▸ v1, hg]; intros; omega))
end Go.Proofs.YtlhnhdkbfkbafaaDoor

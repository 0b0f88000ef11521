/- What this text proves: parts of the contract of the reference's step of a height. The conditions are that hashes have 32 bytes. -/
import Derived.Test.YtlhnhdkbfkbafaaDoorRefBase
namespace Go.Proofs.YtlhnhdkbfkbafaaDoor
open Go.RowKit
set_option linter.unusedVariables false
set_option linter.unusedSimpArgs false

set_option maxRecDepth 100000 in
set_option maxHeartbeats 4000000 in
theorem rstepL_l5a (s : St) (i : In) (w : World) (hs : s.good) (hi : i.fits) (h1 : ¬ i.round < 0) (h2 : ¬ 1048576 < i.round) (h3 : ¬ s.step = 4) (k5 : i.kind = 5) (hr : i.round = s.round) (g0 : s.step = 2) (hg : i.good = true) (hbz : ¬ i.block = zeros) (g1 : s.vr < i.round) :
    Calls Tryd.prog 11 #[.agg s.cells.toArray, .agg i.cells.toArray] w (RTold w (stepF s i)) := by
  have Kh1 := Lib.hid h1
  have Kh2 := Lib.hid h2
  have Kh3 := Lib.hid h3
  have Kk5 := Lib.hid k5
  have Khr := Lib.hid hr
  have Kg0 := Lib.hid g0
  have Khg := Lib.hid hg
  have Khbz := Lib.hid hbz
  have Kg1 := Lib.hid g1
  clear h1 h2 h3 k5 hr g0 hg hbz g1
  have hzs := zero_rstate
  have hz := zeros_len
  have hzl : (bts zeros).length = 32 := by rw [bts_len, zeros_len]
  have hbl : (bts i.block).length = 32 := by rw [bts_len, hi.block]
  have hol : (bts i.own).length = 32 := by rw [bts_len, hi.own]
  have hll : (bts s.locked).length = 32 := by rw [bts_len, hs.locked]
  have hvl : (bts s.valid).length = 32 := by rw [bts_len, hs.valid]
  have hib := hi.block
  have hio := hi.own
  have hsk := hs.locked
  have hcl := In.cells_len hi
  have hsl := St.cells_len hs
  go_enter Tryd.func11, Tryd.ntmps11
  go_upto_region 1 with fail
  have HS0 := Lib.hid (show Bk (((w.alloc (.cells s.cells.toArray 31)).alloc (.cells i.cells.toArray 36)).alloc (.cells St.zero.cells.toArray 31)) w.heap.size 31 s.cells.toArray from ((Bk.new w 31 s.cells.toArray).alloc _).alloc _)
  have HI0 := Lib.hid (show Bk (((w.alloc (.cells s.cells.toArray 31)).alloc (.cells i.cells.toArray 36)).alloc (.cells St.zero.cells.toArray 31)) (w.heap.size + 1) 36 i.cells.toArray from by have := (Bk.new (w.alloc (.cells s.cells.toArray 31)) 36 i.cells.toArray).alloc (.cells St.zero.cells.toArray 31); simpa using this)
  have HR0 := Lib.hid (show Bk (((w.alloc (.cells s.cells.toArray 31)).alloc (.cells i.cells.toArray 36)).alloc (.cells St.zero.cells.toArray 31)) (w.heap.size + 1 + 1) 31 St.zero.cells.toArray from by have := Bk.new ((w.alloc (.cells s.cells.toArray 31)).alloc (.cells i.cells.toArray 36)) 31 St.zero.cells.toArray; simpa using this)
  have HB0 := Lib.hid (show Below w.heap.size w (((w.alloc (.cells s.cells.toArray 31)).alloc (.cells i.cells.toArray 36)).alloc (.cells St.zero.cells.toArray 31)) from (by (first | assumption | (repeat (first | exact Below.refl _ _ | assumption | apply Below.drew | apply below_drewN | (refine Below.setCell ?_ (by (try simp) <;> omega) _) | (refine Below.alloc ?_ (by (try simp) <;> omega) _))))))
  obtain ⟨v0, hv0⟩ : ∃ v0, ((w.alloc (.cells s.cells.toArray 31)).alloc (.cells i.cells.toArray 36)).alloc (.cells St.zero.cells.toArray 31) = v0 := ⟨_, rfl⟩
  have hsz : v0.heap.size = w.heap.size + 1 + 1 + 1 := by rw [← hv0]; simp
  obtain ⟨gs, hgs⟩ : ∃ gs, w.heap.size = gs := ⟨_, rfl⟩
  rw [hv0] at HS0 HI0 HR0 HB0 ⊢
  rw [hgs] at HS0 HI0 HR0 HB0 hsz ⊢
  obtain ⟨gi, hgi⟩ : ∃ gi, gs + 1 = gi := ⟨_, rfl⟩
  rw [hgi] at HI0 HR0 hsz ⊢
  obtain ⟨gr, hgr⟩ : ∃ gr, gi + 1 = gr := ⟨_, rfl⟩
  rw [hgr] at HR0 hsz ⊢
  clear hv0 hzs
  obtain ⟨d0, d1, d2, d34, d35, d36⟩ := in_out HI0.out hi
  go_wp2_with (refine wpList_val (by rfl) (run_load_seg 23 _ (by with_reducible rfl) _ _ (by rfl) _ (by assumption) 32 (by assumption) _ hu_hash (by rfl) hi_hash) ?_)
  with_reducible refine (rempty_any i.block hi.block _).mono ?_
  rintro e v1 ⟨rfl, hb1⟩
  have HS1 := Lib.hid (HS0.out.below hb1 HS0.out.lt)
  have HI1 := Lib.hid (HI0.out.below hb1 HI0.out.lt)
  have HR1 := Lib.hid (HR0.out.below hb1 HR0.out.lt)
  have HB1 := Lib.hid (HB0.out.trans (hb1.mono (by omega)))
  have hz1 := hb1.size
  clear hb1 HS0 HI0 HR0 HB0 d0 d1 d2 d34 d35 d36
  obtain ⟨d0, d1, d2, d34, d35, d36⟩ := in_out HI1.out hi
  go_wp2_with (refine wpList_val (by rfl) (run_load_seg 23 _ (by with_reducible rfl) _ _ (by rfl) _ (by assumption) 32 (by assumption) _ hu_hash (by rfl) hi_hash) ?_)
  with_reducible refine (rempty_any i.own hi.own _).mono ?_
  rintro e w0 ⟨rfl, hb1⟩
  have HS0 := Lib.hid (HS1.out.below hb1 HS1.out.lt)
  have HI0 := Lib.hid (HI1.out.below hb1 HI1.out.lt)
  have HR0 := Lib.hid (HR1.out.below hb1 HR1.out.lt)
  have HB0 : Hid (Below gs w w0) := Lib.hid (HB1.out.trans (hb1.mono (by omega)))
  have hz0 : v0.heap.size ≤ w0.heap.size := Nat.le_trans hz1 hb1.size
  clear hb1 HS1 HI1 HR1 HB1 d0 d1 d2 d34 d35 d36 hz1
  obtain ⟨c0, c1, c2, c34, c35, c67, c68, c100, c101⟩ := st_out HS0.out hs
  obtain ⟨d0, d1, d2, d34, d35, d36⟩ := in_out HI0.out hi
  have h1 := Kh1.out
  have h2 := Kh2.out
  have h3 := Kh3.out
  have k5 := Kk5.out
  have hr := Khr.out
  have g0 := Kg0.out
  have hg := Khg.out
  have hbz := Khbz.out
  have g1 := Kg1.out
  rw [hg] at d35
  clear h1 h2 h3 k5 hr g0 hg hbz g1
  have h1 := Kh1.out
  have h2 := Kh2.out
  have h3 := Kh3.out
  have k5 := Kk5.out
  have hr := Khr.out
  have g0 := Kg0.out
  have hg := Khg.out
  have hbz := Khbz.out
  have g1 := Kg1.out
  have el : decide (i.round < 0) = false := by simpa using h1
  have em : decide (1048576 < i.round) = false := by simpa using h2
  have e4 : (s.step == 4) = false := by simpa using h3
  have en1 : (i.kind == 1) = false := by simp [k5]
  have en2 : (i.kind == 2) = false := by simp [k5]
  have en3 : (i.kind == 3) = false := by simp [k5]
  have en4 : (i.kind == 4) = false := by simp [k5]
  have en5 : (i.kind == 5) = true := by simp [k5]
  have en6 : (i.kind == 6) = false := by simp [k5]
  have en7 : (i.kind == 7) = false := by simp [k5]
  have en8 : (i.kind == 8) = false := by simp [k5]
  have en9 : (i.kind == 9) = false := by simp [k5]
  have en10 : (i.kind == 10) = false := by simp [k5]
  have en11 : (i.kind == 11) = false := by simp [k5]
  have en12 : (i.kind == 12) = false := by simp [k5]
  have er : (i.round == s.round) = true := by simp [hr]
  have eb : (i.block == zeros) = false := by simpa using hbz
  have f0 : (s.step == 2) = true := by simpa using g0
  have f1 : decide (s.vr < i.round) = true := by simpa using g1
  clear h1 h2 h3 k5 hr g0 hg hbz g1
  go_upto_region 32 with (first | (refine wpList_val (by rfl) (run_load_seg 23 _ (by with_reducible rfl) _ _ (by rfl) _ (by assumption) 32 (by assumption) _ hu_hash (by rfl) hi_hash) ?_) | (refine wpList_puts (by rfl) 23 _ _ (by with_reducible rfl) gs 35 (by rfl) (bts i.block) (by rfl) 31 (St.cells s) (by exact HS0.out) 32 hbl (by rw [St.cells_len (s := s) hs]; omega) hi_hash bts_all ?_; intro w1 hbx hmx hzx; rw [put_valid hs hi.block] at hbx; have HS1 := Lib.hid hbx; have HM1 := Lib.hid hmx; clear hbx hmx hzx))
  have HI1 := Lib.hid (HM1.out.bk HI0.out (by omega))
  have HR1 := Lib.hid (HM1.out.bk HR0.out (by omega))
  have HB1 : Hid (Below gs w w1) := Lib.hid (HB0.out.trans (HM1.out.to_below (hgs ▸ HB0.out.size) (fun k _ e => by omega)))
  clear HM1
  clear c0 c1 c2 c34 c35 c67 c68 c100 c101 d0 d1 d2 d34 d35 d36
  obtain ⟨c0, c1, c2, c34, c35, c67, c68, c100, c101⟩ := st_out HS1.out (⟨hs.locked, hi.block, hs.block⟩)
  obtain ⟨d0, d1, d2, d34, d35, d36⟩ := in_out HI1.out hi
  try dsimp only at c0 c1 c2 c34 c35 c67 c68 c100 c101
  have hfz := HS1.out.frozen 67
  go_upto_region 33 with (first | (refine wpList_val (by rfl) (run_load_seg 23 _ (by with_reducible rfl) _ _ (by rfl) _ (by assumption) 32 (by assumption) _ hu_hash (by rfl) hi_hash) ?_))
  obtain ⟨w2, hw2⟩ : ∃ x, w1.setCell ⟨gs, 67, none⟩ (.int .i64 i.round) = x := ⟨_, rfl⟩
  have HS2 : Hid (Bk w2 gs 31 (St.cells {s with valid := i.block, vr := i.round}).toArray) := Lib.hid (hw2 ▸ set_vr HS1.out ⟨hs.locked, hi.block, hs.block⟩ i.round)
  have HI2 : Hid (Bk w2 gi 36 i.cells.toArray) := Lib.hid (hw2 ▸ HI1.out.far (p := ⟨gs, 67, none⟩) (by show gi ≠ gs; omega) (.int .i64 i.round))
  have HR2 : Hid (Bk w2 gr 31 St.zero.cells.toArray) := Lib.hid (hw2 ▸ HR1.out.far (p := ⟨gs, 67, none⟩) (by show gr ≠ gs; omega) (.int .i64 i.round))
  have HB2 : Hid (Below gs w w2) := Lib.hid (hw2 ▸ HB1.out.setCell (by show gs ≤ gs; omega) _)
  rw [hw2]
  clear hw2 hfz
  clear c0 c1 c2 c34 c35 c67 c68 c100 c101 d0 d1 d2 d34 d35 d36
  obtain ⟨c0, c1, c2, c34, c35, c67, c68, c100, c101⟩ := st_out HS2.out (⟨hs.locked, hi.block, hs.block⟩)
  obtain ⟨d0, d1, d2, d34, d35, d36⟩ := in_out HI2.out hi
  try dsimp only at c0 c1 c2 c34 c35 c67 c68 c100 c101
  go_upto_region 35 with (first | (refine wpList_val (by rfl) (run_load_seg 23 _ (by with_reducible rfl) _ _ (by rfl) _ (by assumption) 32 (by assumption) _ hu_hash (by rfl) hi_hash) ?_) | (refine wpList_puts (by rfl) 23 _ _ (by with_reducible rfl) gs 2 (by rfl) (bts i.block) (by rfl) 31 (St.cells {s with valid := i.block, vr := i.round}) (by exact HS2.out) 32 hbl (by rw [St.cells_len (s := {s with valid := i.block, vr := i.round}) ⟨hs.locked, hi.block, hs.block⟩]; omega) hi_hash bts_all ?_; intro w3 hbx hmx hzx; rw [put_locked (s := {s with valid := i.block, vr := i.round}) ⟨hs.locked, hi.block, hs.block⟩ hi.block] at hbx; have HS3 := Lib.hid hbx; have HM3 := Lib.hid hmx; clear hbx hmx hzx))
  have HI3 := Lib.hid (HM3.out.bk HI2.out (by omega))
  have HR3 := Lib.hid (HM3.out.bk HR2.out (by omega))
  have HB3 : Hid (Below gs w w3) := Lib.hid (HB2.out.trans (HM3.out.to_below (hgs ▸ HB2.out.size) (fun k _ e => by omega)))
  clear HM3
  clear c0 c1 c2 c34 c35 c67 c68 c100 c101 d0 d1 d2 d34 d35 d36
  obtain ⟨c0, c1, c2, c34, c35, c67, c68, c100, c101⟩ := st_out HS3.out (⟨hi.block, hi.block, hs.block⟩)
  obtain ⟨d0, d1, d2, d34, d35, d36⟩ := in_out HI3.out hi
  try dsimp only at c0 c1 c2 c34 c35 c67 c68 c100 c101
  have hfz := HS3.out.frozen 34
  go_upto_region 36 with (first | (refine wpList_val (by rfl) (run_load_seg 23 _ (by with_reducible rfl) _ _ (by rfl) _ (by assumption) 32 (by assumption) _ hu_hash (by rfl) hi_hash) ?_))
  obtain ⟨w4, hw4⟩ : ∃ x, w3.setCell ⟨gs, 34, none⟩ (.int .i64 i.round) = x := ⟨_, rfl⟩
  have HS4 : Hid (Bk w4 gs 31 (St.cells {s with valid := i.block, vr := i.round, locked := i.block, lr := i.round}).toArray) := Lib.hid (hw4 ▸ set_lr HS3.out ⟨hi.block, hi.block, hs.block⟩ i.round)
  have HI4 : Hid (Bk w4 gi 36 i.cells.toArray) := Lib.hid (hw4 ▸ HI3.out.far (p := ⟨gs, 34, none⟩) (by show gi ≠ gs; omega) (.int .i64 i.round))
  have HR4 : Hid (Bk w4 gr 31 St.zero.cells.toArray) := Lib.hid (hw4 ▸ HR3.out.far (p := ⟨gs, 34, none⟩) (by show gr ≠ gs; omega) (.int .i64 i.round))
  have HB4 : Hid (Below gs w w4) := Lib.hid (hw4 ▸ HB3.out.setCell (by show gs ≤ gs; omega) _)
  rw [hw4]
  clear hw4 hfz
  clear c0 c1 c2 c34 c35 c67 c68 c100 c101 d0 d1 d2 d34 d35 d36
  obtain ⟨c0, c1, c2, c34, c35, c67, c68, c100, c101⟩ := st_out HS4.out (⟨hi.block, hi.block, hs.block⟩)
  obtain ⟨d0, d1, d2, d34, d35, d36⟩ := in_out HI4.out hi
  try dsimp only at c0 c1 c2 c34 c35 c67 c68 c100 c101
  have hfz := HS4.out.frozen 1
  go_upto_region 37 with (first | (refine wpList_val (by rfl) (run_load_seg 23 _ (by with_reducible rfl) _ _ (by rfl) _ (by assumption) 32 (by assumption) _ hu_hash (by rfl) hi_hash) ?_))
  obtain ⟨w5, hw5⟩ : ∃ x, w4.setCell ⟨gs, 1, none⟩ (.int .i64 3) = x := ⟨_, rfl⟩
  have HS5 : Hid (Bk w5 gs 31 (St.cells {s with valid := i.block, vr := i.round, locked := i.block, lr := i.round, step := 3}).toArray) := Lib.hid (hw5 ▸ set_step HS4.out 3)
  have HI5 : Hid (Bk w5 gi 36 i.cells.toArray) := Lib.hid (hw5 ▸ HI4.out.far (p := ⟨gs, 1, none⟩) (by show gi ≠ gs; omega) (.int .i64 3))
  have HR5 : Hid (Bk w5 gr 31 St.zero.cells.toArray) := Lib.hid (hw5 ▸ HR4.out.far (p := ⟨gs, 1, none⟩) (by show gr ≠ gs; omega) (.int .i64 3))
  have HB5 : Hid (Below gs w w5) := Lib.hid (hw5 ▸ HB4.out.setCell (by show gs ≤ gs; omega) _)
  rw [hw5]
  clear hw5 hfz
  clear c0 c1 c2 c34 c35 c67 c68 c100 c101 d0 d1 d2 d34 d35 d36
  obtain ⟨N, hN⟩ : ∃ N, w5.drew.heap.size = N := ⟨_, rfl⟩
  have HW : Hid (∀ W, Below w5.drew.heap.size w5.drew W → Bk W gs 31 (St.cells {s with valid := i.block, vr := i.round, locked := i.block, lr := i.round, step := 3}).toArray ∧ Bk W gi 36 i.cells.toArray ∧ Bk W gr 31 St.zero.cells.toArray) := Lib.hid (fun W h => ⟨HS5.out.drew.below h (HS5.out.drew.lt), HI5.out.drew.below h (HI5.out.drew.lt), HR5.out.drew.below h (HR5.out.drew.lt)⟩)
  have hgx : ({s with valid := i.block, vr := i.round, locked := i.block, lr := i.round, step := 3} : St).good := ⟨hi.block, hi.block, hs.block⟩
  have hsl1 := St.cells_len (s := {s with valid := i.block, vr := i.round, locked := i.block, lr := i.round, step := 3}) hgx
  have hbl1 : (bts ({s with valid := i.block, vr := i.round, locked := i.block, lr := i.round, step := 3} : St).valid).length = 32 := by rw [bts_len, hgx.valid]
  have hkl1 : (bts ({s with valid := i.block, vr := i.round, locked := i.block, lr := i.round, step := 3} : St).locked).length = 32 := by rw [bts_len, hgx.locked]
  refine wp_region_each_tail 5 (lstV [fun v _ => v = .agg (St.cells {s with valid := i.block, vr := i.round, locked := i.block, lr := i.round, step := 3}).toArray, fun v _ => v = .int .i64 i.round, fun v _ => v = .pointer (some ⟨gi, 2, none⟩), fun v _ => v = .agg (bts i.block).toArray, fun v W => ROutAt W N v (some ⟨3, i.round, i.block, 0⟩)]) (by kernel_rfl) (by kernel_rfl) (lstV_on (by repeat' (first | exact forall_nil | refine forall_cons ?_ ?_ | exact stays_rout _ _ | exact stays_tup _ _ _ | exact stays_eq _))) ?turns ?fin
  case turns =>
    refine ⟨fun a W pre => ?_, fun a W pre => ?_, fun a W pre => ?_, fun a W pre => ?_, fun a W pre => ?_, trivial⟩
    · refine .inl ?_
      have e2 : a.eval (.tmp 2) = .pointer (some ⟨gs, 0, none⟩) := pre.was 2 (by kernel_rfl) rfl
      have q2 := e2
      rw [Act.eval, Array.getD_eq_getD_getElem?] at q2
      exact does_val (want_none rfl) (run_load_seg 31 _ rfl gs 0 e2 (St.cells {s with valid := i.block, vr := i.round, locked := i.block, lr := i.round, step := 3}) (HW.out W pre.b).1.all 102 hsl1 _ Tryd.underlying31 rfl hi_rstate) rfl
    · refine .inl ?_
      have e6 : a.eval (.tmp 6) = .int .i64 i.round := pre.was 6 (by kernel_rfl) rfl
      have q6 := e6
      rw [Act.eval, Array.getD_eq_getD_getElem?] at q6
      exact does_val (want_none rfl) (by go_simp) rfl
    · refine .inl ?_
      have e3 : a.eval (.tmp 3) = .pointer (some ⟨gi, 0, none⟩) := pre.was 3 (by kernel_rfl) rfl
      have q3 := e3
      rw [Act.eval, Array.getD_eq_getD_getElem?] at q3
      exact does_val (want_none rfl) (by go_simp) rfl
    · refine .inl ?_
      have e200 : a.eval (.tmp 200) = .pointer (some ⟨gi, 2, none⟩) := pre.val 2 200 (by kernel_rfl) (by kernel_rfl)
      have q200 := e200
      rw [Act.eval, Array.getD_eq_getD_getElem?] at q200
      exact does_val (want_none rfl) (run_load_seg 23 _ rfl gi 2 e200 (bts i.block) ((in_out (HW.out W pre.b).2.1 hi).2.2.1) 32 hbl _ hu_hash rfl hi_hash) rfl
    · refine .inl ?_
      have e199 : a.eval (.tmp 199) = .int .i64 i.round := pre.val 1 199 (by kernel_rfl) (by kernel_rfl)
      have q199 := e199
      rw [Act.eval, Array.getD_eq_getD_getElem?] at q199
      have e201 : a.eval (.tmp 201) = .agg (bts i.block).toArray := pre.val 3 201 (by kernel_rfl) (by kernel_rfl)
      have q201 := e201
      rw [Act.eval, Array.getD_eq_getD_getElem?] at q201
      refine does_call_ex (want_none rfl) (by go_simp) ((rone_any 3 (i.round) 0 i.block hi.block W).mono fun e W' hx => ?_)
      obtain ⟨u, h1, h2, h3⟩ := hx
      exact ⟨u, h1, h2.less (hN ▸ pre.b.size), h3⟩
  case fin =>
    intro a W hb hsz2 hd hv ho
    have qs : a.eval (.tmp 198) = .agg (St.cells {s with valid := i.block, vr := i.round, locked := i.block, lr := i.round, step := 3}).toArray := hv 0 198 (by decide) (by kernel_rfl)
    have qo : ROutAt W N (a.eval (.tmp 202)) (some ⟨3, i.round, i.block, 0⟩) := hv 4 202 (by decide) (by kernel_rfl)
    have q4 : a.eval (.tmp 4) = .pointer (some ⟨gr, 0, none⟩) := ho 4 (no_dst (by kernel_rfl))
    have hs8 : 300 < a.tmps.size := by rw [hsz2]; first | (simp; done) | (show 300 < 301; decide)
    have hbk := (HW.out W hb).2.2
    have hBD : Below gs w w5.drew := HB5.out.trans (by (first | assumption | (repeat (first | exact Below.refl _ _ | assumption | apply Below.drew | apply below_drewN | (refine Below.setCell ?_ (by (try simp) <;> omega) _) | (refine Below.alloc ?_ (by (try simp) <;> omega) _)))))
    have hBl : Below gs w W := hBD.trans (hb.mono (hgs ▸ hBD.size))
    have HBL := Lib.hid hBl
    simp only [List.drop_succ_cons, List.drop_zero]
    have hsl2 := St.cells_len (s := {s with valid := i.block, vr := i.round, locked := i.block, lr := i.round, step := 3}) hgx
    refine wpList_puts (want_none rfl) 31 _ _ rfl gr 0 q4 (St.cells {s with valid := i.block, vr := i.round, locked := i.block, lr := i.round, step := 3}) qs 31 St.zero.cells hbk 102 hsl2 (by rw [St.cells_len St.zero_good]; omega) hi_rstate St.one_cells ?_
    intro w7 hb7 hm7 hz7
    rw [put_all (by rw [St.cells_len St.zero_good]; exact hsl2)] at hb7
    have HB7 := Lib.hid hb7
    have HM7 := Lib.hid hm7
    obtain ⟨vo, hvo⟩ : ∃ v, a.eval (.tmp 202) = v := ⟨_, rfl⟩
    rw [hvo] at qo
    have HO := Lib.hid qo
    have p4 := q4
    have po := hvo
    rw [Act.eval, Array.getD_eq_getD_getElem?] at p4 po
    clear hb7 hm7 qo qs hBl
    go_wp2_with fail
    have go_ : a.tmps[202]'(by omega) = vo := by rw [Array.getElem?_eq_getElem (by omega)] at po; simpa using po
    have HBB := HBL
    have hNg : gr < N := by rw [← hN]; have := hbk.lt; have := HR5.out.drew.lt; omega
    have h1 := Kh1.out
    have h2 := Kh2.out
    have h3 := Kh3.out
    have k5 := Kk5.out
    have hr := Khr.out
    have g0 := Kg0.out
    have hg := Khg.out
    have hbz := Khbz.out
    have g1 := Kg1.out
    refine bodyPost_ret (rstep_results (s := {s with valid := i.block, vr := i.round, locked := i.block, lr := i.round, step := 3}) (hgx) HB7.out ((set_getD_far (by decide)).trans q4) ((set_getD_same (by omega)).trans go_)) rfl ?_
    exact rstep_end (N := N) HO.out (by omega) (by omega) HM7.out (by rw [hgs]; exact HBB.out) (by first | (simp [stepF, nowF, lockF, lateF, prevF, precF, agreedF, beginOut, h1, h2, h3, k5, hr, g0, hg, hbz, show s.vr < s.round from hr ▸ g1]; done) | (simp [stepF, nowF, lockF, lateF, prevF, precF, agreedF, beginOut, h1, h2, h3, k5, hr, g0, hg, hbz, show s.vr < s.round from hr ▸ g1]; omega) | (simp [stepF, nowF, lockF, lateF, prevF, precF, agreedF, beginOut, h1, h2, h3, k5, hr, g0, hg, hbz, show s.vr < s.round from hr ▸ g1]; intros; omega))
end Go.Proofs.YtlhnhdkbfkbafaaDoor

/- What this text proves: parts of the contract of the reference's step of a height. The conditions are that hashes have 32 bytes. -/
import Derived.Test.YtlhnhdkbfkbafaaDoorRefBase
namespace Go.Proofs.YtlhnhdkbfkbafaaDoor
open Go.RowKit
set_option linter.unusedVariables false
set_option linter.unusedSimpArgs false

set_option maxRecDepth 100000 in
set_option maxHeartbeats 4000000 in
theorem rstepL_l4 (s : St) (i : In) (w : World) (hs : s.good) (hi : i.fits) (h1 : ¬ i.round < 0) (h2 : ¬ 1048576 < i.round) (h3 : ¬ s.step = 4) (k4 : i.kind = 4) (hr : i.round = s.round) (g0 : s.step = 2) (g1 : s.waits < i.round) :
    Calls Tryd.prog 11 #[.agg s.cells.toArray, .agg i.cells.toArray] w (RTold w (stepF s i)) := by
  have Kh1 := Lib.hid h1
  have Kh2 := Lib.hid h2
  have Kh3 := Lib.hid h3
  have Kk4 := Lib.hid k4
  have Khr := Lib.hid hr
  have Kg0 := Lib.hid g0
  have Kg1 := Lib.hid g1
  clear h1 h2 h3 k4 hr g0 g1
  have hzs := zero_rstate
  have hz := zeros_len
  have hzl : (bts zeros).length = 32 := by rw [bts_len, zeros_len]
  have hbl : (bts i.block).length = 32 := by rw [bts_len, hi.block]
  have hol : (bts i.own).length = 32 := by rw [bts_len, hi.own]
  have hll : (bts s.locked).length = 32 := by rw [bts_len, hs.locked]
  have hvl : (bts s.valid).length = 32 := by rw [bts_len, hs.valid]
  have hib := hi.block
  have hio := hi.own
  have hsk := hs.locked
  have hcl := In.cells_len hi
  have hsl := St.cells_len hs
  go_enter Tryd.func11, Tryd.ntmps11
  go_upto_region 1 with fail
  have HS0 := Lib.hid (show Bk (((w.alloc (.cells s.cells.toArray 31)).alloc (.cells i.cells.toArray 36)).alloc (.cells St.zero.cells.toArray 31)) w.heap.size 31 s.cells.toArray from ((Bk.new w 31 s.cells.toArray).alloc _).alloc _)
  have HI0 := Lib.hid (show Bk (((w.alloc (.cells s.cells.toArray 31)).alloc (.cells i.cells.toArray 36)).alloc (.cells St.zero.cells.toArray 31)) (w.heap.size + 1) 36 i.cells.toArray from by have := (Bk.new (w.alloc (.cells s.cells.toArray 31)) 36 i.cells.toArray).alloc (.cells St.zero.cells.toArray 31); simpa using this)
  have HR0 := Lib.hid (show Bk (((w.alloc (.cells s.cells.toArray 31)).alloc (.cells i.cells.toArray 36)).alloc (.cells St.zero.cells.toArray 31)) (w.heap.size + 1 + 1) 31 St.zero.cells.toArray from by have := Bk.new ((w.alloc (.cells s.cells.toArray 31)).alloc (.cells i.cells.toArray 36)) 31 St.zero.cells.toArray; simpa using this)
  have HB0 := Lib.hid (show Below w.heap.size w (((w.alloc (.cells s.cells.toArray 31)).alloc (.cells i.cells.toArray 36)).alloc (.cells St.zero.cells.toArray 31)) from (by (first | assumption | (repeat (first | exact Below.refl _ _ | assumption | apply Below.drew | apply below_drewN | (refine Below.setCell ?_ (by (try simp) <;> omega) _) | (refine Below.alloc ?_ (by (try simp) <;> omega) _))))))
  obtain ⟨v0, hv0⟩ : ∃ v0, ((w.alloc (.cells s.cells.toArray 31)).alloc (.cells i.cells.toArray 36)).alloc (.cells St.zero.cells.toArray 31) = v0 := ⟨_, rfl⟩
  have hsz : v0.heap.size = w.heap.size + 1 + 1 + 1 := by rw [← hv0]; simp
  obtain ⟨gs, hgs⟩ : ∃ gs, w.heap.size = gs := ⟨_, rfl⟩
  rw [hv0] at HS0 HI0 HR0 HB0 ⊢
  rw [hgs] at HS0 HI0 HR0 HB0 hsz ⊢
  obtain ⟨gi, hgi⟩ : ∃ gi, gs + 1 = gi := ⟨_, rfl⟩
  rw [hgi] at HI0 HR0 hsz ⊢
  obtain ⟨gr, hgr⟩ : ∃ gr, gi + 1 = gr := ⟨_, rfl⟩
  rw [hgr] at HR0 hsz ⊢
  clear hv0 hzs
  obtain ⟨d0, d1, d2, d34, d35, d36⟩ := in_out HI0.out hi
  go_wp2_with (refine wpList_val (by rfl) (run_load_seg 23 _ (by with_reducible rfl) _ _ (by rfl) _ (by assumption) 32 (by assumption) _ hu_hash (by rfl) hi_hash) ?_)
  with_reducible refine (rempty_any i.block hi.block _).mono ?_
  rintro e v1 ⟨rfl, hb1⟩
  have HS1 := Lib.hid (HS0.out.below hb1 HS0.out.lt)
  have HI1 := Lib.hid (HI0.out.below hb1 HI0.out.lt)
  have HR1 := Lib.hid (HR0.out.below hb1 HR0.out.lt)
  have HB1 := Lib.hid (HB0.out.trans (hb1.mono (by omega)))
  have hz1 := hb1.size
  clear hb1 HS0 HI0 HR0 HB0 d0 d1 d2 d34 d35 d36
  obtain ⟨d0, d1, d2, d34, d35, d36⟩ := in_out HI1.out hi
  go_wp2_with (refine wpList_val (by rfl) (run_load_seg 23 _ (by with_reducible rfl) _ _ (by rfl) _ (by assumption) 32 (by assumption) _ hu_hash (by rfl) hi_hash) ?_)
  with_reducible refine (rempty_any i.own hi.own _).mono ?_
  rintro e w0 ⟨rfl, hb1⟩
  have HS0 := Lib.hid (HS1.out.below hb1 HS1.out.lt)
  have HI0 := Lib.hid (HI1.out.below hb1 HI1.out.lt)
  have HR0 := Lib.hid (HR1.out.below hb1 HR1.out.lt)
  have HB0 : Hid (Below gs w w0) := Lib.hid (HB1.out.trans (hb1.mono (by omega)))
  have hz0 : v0.heap.size ≤ w0.heap.size := Nat.le_trans hz1 hb1.size
  clear hb1 HS1 HI1 HR1 HB1 d0 d1 d2 d34 d35 d36 hz1
  cases hg : i.good with
  | true =>
    obtain ⟨c0, c1, c2, c34, c35, c67, c68, c100, c101⟩ := st_out HS0.out hs
    obtain ⟨d0, d1, d2, d34, d35, d36⟩ := in_out HI0.out hi
    rw [hg] at d35
    have h1 := Kh1.out
    have h2 := Kh2.out
    have h3 := Kh3.out
    have k4 := Kk4.out
    have hr := Khr.out
    have g0 := Kg0.out
    have g1 := Kg1.out
    have el : decide (i.round < 0) = false := by simpa using h1
    have em : decide (1048576 < i.round) = false := by simpa using h2
    have e4 : (s.step == 4) = false := by simpa using h3
    have en1 : (i.kind == 1) = false := by simp [k4]
    have en2 : (i.kind == 2) = false := by simp [k4]
    have en3 : (i.kind == 3) = false := by simp [k4]
    have en4 : (i.kind == 4) = true := by simp [k4]
    have en5 : (i.kind == 5) = false := by simp [k4]
    have en6 : (i.kind == 6) = false := by simp [k4]
    have en7 : (i.kind == 7) = false := by simp [k4]
    have en8 : (i.kind == 8) = false := by simp [k4]
    have en9 : (i.kind == 9) = false := by simp [k4]
    have en10 : (i.kind == 10) = false := by simp [k4]
    have en11 : (i.kind == 11) = false := by simp [k4]
    have en12 : (i.kind == 12) = false := by simp [k4]
    have er : (i.round == s.round) = true := by simp [hr]
    have f0 : (s.step == 2) = true := by simpa using g0
    have f1 : decide (s.waits < i.round) = true := by simpa using g1
    clear h1 h2 h3 k4 hr g0 g1
    have hfz := HS0.out.frozen 100
    go_upto_region 28 with (first | (refine wpList_val (by rfl) (run_load_seg 23 _ (by with_reducible rfl) _ _ (by rfl) _ (by assumption) 32 (by assumption) _ hu_hash (by rfl) hi_hash) ?_))
    obtain ⟨w1, hw1⟩ : ∃ x, w0.setCell ⟨gs, 100, none⟩ (.int .i64 i.round) = x := ⟨_, rfl⟩
    have HS1 : Hid (Bk w1 gs 31 (St.cells {s with waits := i.round}).toArray) := Lib.hid (hw1 ▸ set_waits HS0.out hs i.round)
    have HI1 : Hid (Bk w1 gi 36 i.cells.toArray) := Lib.hid (hw1 ▸ HI0.out.far (p := ⟨gs, 100, none⟩) (by show gi ≠ gs; omega) (.int .i64 i.round))
    have HR1 : Hid (Bk w1 gr 31 St.zero.cells.toArray) := Lib.hid (hw1 ▸ HR0.out.far (p := ⟨gs, 100, none⟩) (by show gr ≠ gs; omega) (.int .i64 i.round))
    have HB1 : Hid (Below gs w w1) := Lib.hid (hw1 ▸ HB0.out.setCell (by show gs ≤ gs; omega) _)
    rw [hw1]
    clear hw1 hfz
    clear c0 c1 c2 c34 c35 c67 c68 c100 c101 d0 d1 d2 d34 d35 d36
    obtain ⟨N, hN⟩ : ∃ N, w1.drew.heap.size = N := ⟨_, rfl⟩
    have HW : Hid (∀ W, Below w1.drew.heap.size w1.drew W → Bk W gs 31 (St.cells {s with waits := i.round}).toArray ∧ Bk W gi 36 i.cells.toArray ∧ Bk W gr 31 St.zero.cells.toArray) := Lib.hid (fun W h => ⟨HS1.out.drew.below h (HS1.out.drew.lt), HI1.out.drew.below h (HI1.out.drew.lt), HR1.out.drew.below h (HR1.out.drew.lt)⟩)
    have hgx : ({s with waits := i.round} : St).good := ⟨hs.locked, hs.valid, hs.block⟩
    have hsl1 := St.cells_len (s := {s with waits := i.round}) hgx
    have hbl1 : (bts ({s with waits := i.round} : St).valid).length = 32 := by rw [bts_len, hgx.valid]
    have hkl1 : (bts ({s with waits := i.round} : St).locked).length = 32 := by rw [bts_len, hgx.locked]
    refine wp_region_each_tail 4 (lstV [fun v _ => v = .agg (St.cells {s with waits := i.round}).toArray, fun v _ => v = .int .i64 i.round, fun v _ => v = .agg (bts zeros).toArray, fun v W => ROutAt W N v (some ⟨5, i.round, zeros, 0⟩)]) (by kernel_rfl) (by kernel_rfl) (lstV_on (by repeat' (first | exact forall_nil | refine forall_cons ?_ ?_ | exact stays_rout _ _ | exact stays_tup _ _ _ | exact stays_eq _))) ?turns ?fin
    case turns =>
      refine ⟨fun a W pre => ?_, fun a W pre => ?_, fun a W pre => ?_, fun a W pre => ?_, trivial⟩
      · refine .inl ?_
        have e2 : a.eval (.tmp 2) = .pointer (some ⟨gs, 0, none⟩) := pre.was 2 (by kernel_rfl) rfl
        have q2 := e2
        rw [Act.eval, Array.getD_eq_getD_getElem?] at q2
        exact does_val (want_none rfl) (run_load_seg 31 _ rfl gs 0 e2 (St.cells {s with waits := i.round}) (HW.out W pre.b).1.all 102 hsl1 _ Tryd.underlying31 rfl hi_rstate) rfl
      · refine .inl ?_
        have e6 : a.eval (.tmp 6) = .int .i64 i.round := pre.was 6 (by kernel_rfl) rfl
        have q6 := e6
        rw [Act.eval, Array.getD_eq_getD_getElem?] at q6
        exact does_val (want_none rfl) (by go_simp) rfl
      · refine .inl ?_
        exact does_val (want_none rfl) (run_build_at 23 _ rfl (bts zeros) (by exact made_noneR)) rfl
      · refine .inl ?_
        have e159 : a.eval (.tmp 159) = .int .i64 i.round := pre.val 1 159 (by kernel_rfl) (by kernel_rfl)
        have q159 := e159
        rw [Act.eval, Array.getD_eq_getD_getElem?] at q159
        have e160 : a.eval (.tmp 160) = .agg (bts zeros).toArray := pre.val 2 160 (by kernel_rfl) (by kernel_rfl)
        have q160 := e160
        rw [Act.eval, Array.getD_eq_getD_getElem?] at q160
        refine does_call_ex (want_none rfl) (by go_simp) ((rone_any 5 (i.round) 0 zeros zeros_len W).mono fun e W' hx => ?_)
        obtain ⟨u, h1, h2, h3⟩ := hx
        exact ⟨u, h1, h2.less (hN ▸ pre.b.size), h3⟩
    case fin =>
      intro a W hb hsz2 hd hv ho
      have qs : a.eval (.tmp 158) = .agg (St.cells {s with waits := i.round}).toArray := hv 0 158 (by decide) (by kernel_rfl)
      have qo : ROutAt W N (a.eval (.tmp 161)) (some ⟨5, i.round, zeros, 0⟩) := hv 3 161 (by decide) (by kernel_rfl)
      have q4 : a.eval (.tmp 4) = .pointer (some ⟨gr, 0, none⟩) := ho 4 (no_dst (by kernel_rfl))
      have hs8 : 300 < a.tmps.size := by rw [hsz2]; first | (simp; done) | (show 300 < 301; decide)
      have hbk := (HW.out W hb).2.2
      have hBD : Below gs w w1.drew := HB1.out.trans (by (first | assumption | (repeat (first | exact Below.refl _ _ | assumption | apply Below.drew | apply below_drewN | (refine Below.setCell ?_ (by (try simp) <;> omega) _) | (refine Below.alloc ?_ (by (try simp) <;> omega) _)))))
      have hBl : Below gs w W := hBD.trans (hb.mono (hgs ▸ hBD.size))
      have HBL := Lib.hid hBl
      simp only [List.drop_succ_cons, List.drop_zero]
      have hsl2 := St.cells_len (s := {s with waits := i.round}) hgx
      refine wpList_puts (want_none rfl) 31 _ _ rfl gr 0 q4 (St.cells {s with waits := i.round}) qs 31 St.zero.cells hbk 102 hsl2 (by rw [St.cells_len St.zero_good]; omega) hi_rstate St.one_cells ?_
      intro w7 hb7 hm7 hz7
      rw [put_all (by rw [St.cells_len St.zero_good]; exact hsl2)] at hb7
      have HB7 := Lib.hid hb7
      have HM7 := Lib.hid hm7
      obtain ⟨vo, hvo⟩ : ∃ v, a.eval (.tmp 161) = v := ⟨_, rfl⟩
      rw [hvo] at qo
      have HO := Lib.hid qo
      have p4 := q4
      have po := hvo
      rw [Act.eval, Array.getD_eq_getD_getElem?] at p4 po
      clear hb7 hm7 qo qs hBl
      go_wp2_with fail
      have go_ : a.tmps[161]'(by omega) = vo := by rw [Array.getElem?_eq_getElem (by omega)] at po; simpa using po
      have HBB := HBL
      have hNg : gr < N := by rw [← hN]; have := hbk.lt; have := HR1.out.drew.lt; omega
      have h1 := Kh1.out
      have h2 := Kh2.out
      have h3 := Kh3.out
      have k4 := Kk4.out
      have hr := Khr.out
      have g0 := Kg0.out
      have g1 := Kg1.out
      refine bodyPost_ret (rstep_results (s := {s with waits := i.round}) (hgx) HB7.out ((set_getD_far (by decide)).trans q4) ((set_getD_same (by omega)).trans go_)) rfl ?_
      exact rstep_end (N := N) HO.out (by omega) (by omega) HM7.out (by rw [hgs]; exact HBB.out) (by first | (simp [stepF, nowF, lockF, lateF, prevF, precF, agreedF, beginOut, h1, h2, h3, k4, hr, g0, show s.waits < s.round from hr ▸ g1]; done) | (simp [stepF, nowF, lockF, lateF, prevF, precF, agreedF, beginOut, h1, h2, h3, k4, hr, g0, show s.waits < s.round from hr ▸ g1]; omega) | (simp [stepF, nowF, lockF, lateF, prevF, precF, agreedF, beginOut, h1, h2, h3, k4, hr, g0, show s.waits < s.round from hr ▸ g1]; intros; omega))
  | false =>
    obtain ⟨c0, c1, c2, c34, c35, c67, c68, c100, c101⟩ := st_out HS0.out hs
    obtain ⟨d0, d1, d2, d34, d35, d36⟩ := in_out HI0.out hi
    rw [hg] at d35
    have h1 := Kh1.out
    have h2 := Kh2.out
    have h3 := Kh3.out
    have k4 := Kk4.out
    have hr := Khr.out
    have g0 := Kg0.out
    have g1 := Kg1.out
    have el : decide (i.round < 0) = false := by simpa using h1
    have em : decide (1048576 < i.round) = false := by simpa using h2
    have e4 : (s.step == 4) = false := by simpa using h3
    have en1 : (i.kind == 1) = false := by simp [k4]
    have en2 : (i.kind == 2) = false := by simp [k4]
    have en3 : (i.kind == 3) = false := by simp [k4]
    have en4 : (i.kind == 4) = true := by simp [k4]
    have en5 : (i.kind == 5) = false := by simp [k4]
    have en6 : (i.kind == 6) = false := by simp [k4]
    have en7 : (i.kind == 7) = false := by simp [k4]
    have en8 : (i.kind == 8) = false := by simp [k4]
    have en9 : (i.kind == 9) = false := by simp [k4]
    have en10 : (i.kind == 10) = false := by simp [k4]
    have en11 : (i.kind == 11) = false := by simp [k4]
    have en12 : (i.kind == 12) = false := by simp [k4]
    have er : (i.round == s.round) = true := by simp [hr]
    have f0 : (s.step == 2) = true := by simpa using g0
    have f1 : decide (s.waits < i.round) = true := by simpa using g1
    clear h1 h2 h3 k4 hr g0 g1
    have hfz := HS0.out.frozen 100
    go_upto_region 28 with (first | (refine wpList_val (by rfl) (run_load_seg 23 _ (by with_reducible rfl) _ _ (by rfl) _ (by assumption) 32 (by assumption) _ hu_hash (by rfl) hi_hash) ?_))
    obtain ⟨w1, hw1⟩ : ∃ x, w0.setCell ⟨gs, 100, none⟩ (.int .i64 i.round) = x := ⟨_, rfl⟩
    have HS1 : Hid (Bk w1 gs 31 (St.cells {s with waits := i.round}).toArray) := Lib.hid (hw1 ▸ set_waits HS0.out hs i.round)
    have HI1 : Hid (Bk w1 gi 36 i.cells.toArray) := Lib.hid (hw1 ▸ HI0.out.far (p := ⟨gs, 100, none⟩) (by show gi ≠ gs; omega) (.int .i64 i.round))
    have HR1 : Hid (Bk w1 gr 31 St.zero.cells.toArray) := Lib.hid (hw1 ▸ HR0.out.far (p := ⟨gs, 100, none⟩) (by show gr ≠ gs; omega) (.int .i64 i.round))
    have HB1 : Hid (Below gs w w1) := Lib.hid (hw1 ▸ HB0.out.setCell (by show gs ≤ gs; omega) _)
    rw [hw1]
    clear hw1 hfz
    clear c0 c1 c2 c34 c35 c67 c68 c100 c101 d0 d1 d2 d34 d35 d36
    obtain ⟨N, hN⟩ : ∃ N, w1.drew.heap.size = N := ⟨_, rfl⟩
    have HW : Hid (∀ W, Below w1.drew.heap.size w1.drew W → Bk W gs 31 (St.cells {s with waits := i.round}).toArray ∧ Bk W gi 36 i.cells.toArray ∧ Bk W gr 31 St.zero.cells.toArray) := Lib.hid (fun W h => ⟨HS1.out.drew.below h (HS1.out.drew.lt), HI1.out.drew.below h (HI1.out.drew.lt), HR1.out.drew.below h (HR1.out.drew.lt)⟩)
    have hgx : ({s with waits := i.round} : St).good := ⟨hs.locked, hs.valid, hs.block⟩
    have hsl1 := St.cells_len (s := {s with waits := i.round}) hgx
    have hbl1 : (bts ({s with waits := i.round} : St).valid).length = 32 := by rw [bts_len, hgx.valid]
    have hkl1 : (bts ({s with waits := i.round} : St).locked).length = 32 := by rw [bts_len, hgx.locked]
    refine wp_region_each_tail 4 (lstV [fun v _ => v = .agg (St.cells {s with waits := i.round}).toArray, fun v _ => v = .int .i64 i.round, fun v _ => v = .agg (bts zeros).toArray, fun v W => ROutAt W N v (some ⟨5, i.round, zeros, 0⟩)]) (by kernel_rfl) (by kernel_rfl) (lstV_on (by repeat' (first | exact forall_nil | refine forall_cons ?_ ?_ | exact stays_rout _ _ | exact stays_tup _ _ _ | exact stays_eq _))) ?turns ?fin
    case turns =>
      refine ⟨fun a W pre => ?_, fun a W pre => ?_, fun a W pre => ?_, fun a W pre => ?_, trivial⟩
      · refine .inl ?_
        have e2 : a.eval (.tmp 2) = .pointer (some ⟨gs, 0, none⟩) := pre.was 2 (by kernel_rfl) rfl
        have q2 := e2
        rw [Act.eval, Array.getD_eq_getD_getElem?] at q2
        exact does_val (want_none rfl) (run_load_seg 31 _ rfl gs 0 e2 (St.cells {s with waits := i.round}) (HW.out W pre.b).1.all 102 hsl1 _ Tryd.underlying31 rfl hi_rstate) rfl
      · refine .inl ?_
        have e6 : a.eval (.tmp 6) = .int .i64 i.round := pre.was 6 (by kernel_rfl) rfl
        have q6 := e6
        rw [Act.eval, Array.getD_eq_getD_getElem?] at q6
        exact does_val (want_none rfl) (by go_simp) rfl
      · refine .inl ?_
        exact does_val (want_none rfl) (run_build_at 23 _ rfl (bts zeros) (by exact made_noneR)) rfl
      · refine .inl ?_
        have e159 : a.eval (.tmp 159) = .int .i64 i.round := pre.val 1 159 (by kernel_rfl) (by kernel_rfl)
        have q159 := e159
        rw [Act.eval, Array.getD_eq_getD_getElem?] at q159
        have e160 : a.eval (.tmp 160) = .agg (bts zeros).toArray := pre.val 2 160 (by kernel_rfl) (by kernel_rfl)
        have q160 := e160
        rw [Act.eval, Array.getD_eq_getD_getElem?] at q160
        refine does_call_ex (want_none rfl) (by go_simp) ((rone_any 5 (i.round) 0 zeros zeros_len W).mono fun e W' hx => ?_)
        obtain ⟨u, h1, h2, h3⟩ := hx
        exact ⟨u, h1, h2.less (hN ▸ pre.b.size), h3⟩
    case fin =>
      intro a W hb hsz2 hd hv ho
      have qs : a.eval (.tmp 158) = .agg (St.cells {s with waits := i.round}).toArray := hv 0 158 (by decide) (by kernel_rfl)
      have qo : ROutAt W N (a.eval (.tmp 161)) (some ⟨5, i.round, zeros, 0⟩) := hv 3 161 (by decide) (by kernel_rfl)
      have q4 : a.eval (.tmp 4) = .pointer (some ⟨gr, 0, none⟩) := ho 4 (no_dst (by kernel_rfl))
      have hs8 : 300 < a.tmps.size := by rw [hsz2]; first | (simp; done) | (show 300 < 301; decide)
      have hbk := (HW.out W hb).2.2
      have hBD : Below gs w w1.drew := HB1.out.trans (by (first | assumption | (repeat (first | exact Below.refl _ _ | assumption | apply Below.drew | apply below_drewN | (refine Below.setCell ?_ (by (try simp) <;> omega) _) | (refine Below.alloc ?_ (by (try simp) <;> omega) _)))))
      have hBl : Below gs w W := hBD.trans (hb.mono (hgs ▸ hBD.size))
      have HBL := Lib.hid hBl
      simp only [List.drop_succ_cons, List.drop_zero]
      have hsl2 := St.cells_len (s := {s with waits := i.round}) hgx
      refine wpList_puts (want_none rfl) 31 _ _ rfl gr 0 q4 (St.cells {s with waits := i.round}) qs 31 St.zero.cells hbk 102 hsl2 (by rw [St.cells_len St.zero_good]; omega) hi_rstate St.one_cells ?_
      intro w7 hb7 hm7 hz7
      rw [put_all (by rw [St.cells_len St.zero_good]; exact hsl2)] at hb7
      have HB7 := Lib.hid hb7
      have HM7 := Lib.hid hm7
      obtain ⟨vo, hvo⟩ : ∃ v, a.eval (.tmp 161) = v := ⟨_, rfl⟩
      rw [hvo] at qo
      have HO := Lib.hid qo
      have p4 := q4
      have po := hvo
      rw [Act.eval, Array.getD_eq_getD_getElem?] at p4 po
      clear hb7 hm7 qo qs hBl
      go_wp2_with fail
      have go_ : a.tmps[161]'(by omega) = vo := by rw [Array.getElem?_eq_getElem (by omega)] at po; simpa using po
      have HBB := HBL
      have hNg : gr < N := by rw [← hN]; have := hbk.lt; have := HR1.out.drew.lt; omega
      have h1 := Kh1.out
      have h2 := Kh2.out
      have h3 := Kh3.out
      have k4 := Kk4.out
      have hr := Khr.out
      have g0 := Kg0.out
      have g1 := Kg1.out
      refine bodyPost_ret (rstep_results (s := {s with waits := i.round}) (hgx) HB7.out ((set_getD_far (by decide)).trans q4) ((set_getD_same (by omega)).trans go_)) rfl ?_
      exact rstep_end (N := N) HO.out (by omega) (by omega) HM7.out (by rw [hgs]; exact HBB.out) (by first | (simp [stepF, nowF, lockF, lateF, prevF, precF, agreedF, beginOut, h1, h2, h3, k4, hr, g0, show s.waits < s.round from hr ▸ g1]; done) | (simp [stepF, nowF, lockF, lateF, prevF, precF, agreedF, beginOut, h1, h2, h3, k4, hr, g0, show s.waits < s.round from hr ▸ g1]; omega) | (simp [stepF, nowF, lockF, lateF, prevF, precF, agreedF, beginOut, h1, h2, h3, k4, hr, g0, show s.waits < s.round from hr ▸ g1]; intros; omega))

set_option maxRecDepth 100000 in
set_option maxHeartbeats 4000000 in
theorem rstepL_l1a (s : St) (i : In) (w : World) (hs : s.good) (hi : i.fits) (h1 : ¬ i.round < 0) (h2 : ¬ 1048576 < i.round) (h3 : ¬ s.step = 4) (k1 : i.kind = 1) (hlt : s.round < i.round) (ho : i.own = zeros) :
    Calls Tryd.prog 11 #[.agg s.cells.toArray, .agg i.cells.toArray] w (RTold w (stepF s i)) := by
  have Kh1 := Lib.hid h1
  have Kh2 := Lib.hid h2
  have Kh3 := Lib.hid h3
  have Kk1 := Lib.hid k1
  have Khlt := Lib.hid hlt
  have Kho := Lib.hid ho
  clear h1 h2 h3 k1 hlt ho
  have hzs := zero_rstate
  have hz := zeros_len
  have hzl : (bts zeros).length = 32 := by rw [bts_len, zeros_len]
  have hbl : (bts i.block).length = 32 := by rw [bts_len, hi.block]
  have hol : (bts i.own).length = 32 := by rw [bts_len, hi.own]
  have hll : (bts s.locked).length = 32 := by rw [bts_len, hs.locked]
  have hvl : (bts s.valid).length = 32 := by rw [bts_len, hs.valid]
  have hib := hi.block
  have hio := hi.own
  have hsk := hs.locked
  have hcl := In.cells_len hi
  have hsl := St.cells_len hs
  go_enter Tryd.func11, Tryd.ntmps11
  go_upto_region 1 with fail
  have HS0 := Lib.hid (show Bk (((w.alloc (.cells s.cells.toArray 31)).alloc (.cells i.cells.toArray 36)).alloc (.cells St.zero.cells.toArray 31)) w.heap.size 31 s.cells.toArray from ((Bk.new w 31 s.cells.toArray).alloc _).alloc _)
  have HI0 := Lib.hid (show Bk (((w.alloc (.cells s.cells.toArray 31)).alloc (.cells i.cells.toArray 36)).alloc (.cells St.zero.cells.toArray 31)) (w.heap.size + 1) 36 i.cells.toArray from by have := (Bk.new (w.alloc (.cells s.cells.toArray 31)) 36 i.cells.toArray).alloc (.cells St.zero.cells.toArray 31); simpa using this)
  have HR0 := Lib.hid (show Bk (((w.alloc (.cells s.cells.toArray 31)).alloc (.cells i.cells.toArray 36)).alloc (.cells St.zero.cells.toArray 31)) (w.heap.size + 1 + 1) 31 St.zero.cells.toArray from by have := Bk.new ((w.alloc (.cells s.cells.toArray 31)).alloc (.cells i.cells.toArray 36)) 31 St.zero.cells.toArray; simpa using this)
  have HB0 := Lib.hid (show Below w.heap.size w (((w.alloc (.cells s.cells.toArray 31)).alloc (.cells i.cells.toArray 36)).alloc (.cells St.zero.cells.toArray 31)) from (by (first | assumption | (repeat (first | exact Below.refl _ _ | assumption | apply Below.drew | apply below_drewN | (refine Below.setCell ?_ (by (try simp) <;> omega) _) | (refine Below.alloc ?_ (by (try simp) <;> omega) _))))))
  obtain ⟨v0, hv0⟩ : ∃ v0, ((w.alloc (.cells s.cells.toArray 31)).alloc (.cells i.cells.toArray 36)).alloc (.cells St.zero.cells.toArray 31) = v0 := ⟨_, rfl⟩
  have hsz : v0.heap.size = w.heap.size + 1 + 1 + 1 := by rw [← hv0]; simp
  obtain ⟨gs, hgs⟩ : ∃ gs, w.heap.size = gs := ⟨_, rfl⟩
  rw [hv0] at HS0 HI0 HR0 HB0 ⊢
  rw [hgs] at HS0 HI0 HR0 HB0 hsz ⊢
  obtain ⟨gi, hgi⟩ : ∃ gi, gs + 1 = gi := ⟨_, rfl⟩
  rw [hgi] at HI0 HR0 hsz ⊢
  obtain ⟨gr, hgr⟩ : ∃ gr, gi + 1 = gr := ⟨_, rfl⟩
  rw [hgr] at HR0 hsz ⊢
  clear hv0 hzs
  obtain ⟨d0, d1, d2, d34, d35, d36⟩ := in_out HI0.out hi
  go_wp2_with (refine wpList_val (by rfl) (run_load_seg 23 _ (by with_reducible rfl) _ _ (by rfl) _ (by assumption) 32 (by assumption) _ hu_hash (by rfl) hi_hash) ?_)
  with_reducible refine (rempty_any i.block hi.block _).mono ?_
  rintro e v1 ⟨rfl, hb1⟩
  have HS1 := Lib.hid (HS0.out.below hb1 HS0.out.lt)
  have HI1 := Lib.hid (HI0.out.below hb1 HI0.out.lt)
  have HR1 := Lib.hid (HR0.out.below hb1 HR0.out.lt)
  have HB1 := Lib.hid (HB0.out.trans (hb1.mono (by omega)))
  have hz1 := hb1.size
  clear hb1 HS0 HI0 HR0 HB0 d0 d1 d2 d34 d35 d36
  obtain ⟨d0, d1, d2, d34, d35, d36⟩ := in_out HI1.out hi
  go_wp2_with (refine wpList_val (by rfl) (run_load_seg 23 _ (by with_reducible rfl) _ _ (by rfl) _ (by assumption) 32 (by assumption) _ hu_hash (by rfl) hi_hash) ?_)
  with_reducible refine (rempty_any i.own hi.own _).mono ?_
  rintro e w0 ⟨rfl, hb1⟩
  have HS0 := Lib.hid (HS1.out.below hb1 HS1.out.lt)
  have HI0 := Lib.hid (HI1.out.below hb1 HI1.out.lt)
  have HR0 := Lib.hid (HR1.out.below hb1 HR1.out.lt)
  have HB0 : Hid (Below gs w w0) := Lib.hid (HB1.out.trans (hb1.mono (by omega)))
  have hz0 : v0.heap.size ≤ w0.heap.size := Nat.le_trans hz1 hb1.size
  clear hb1 HS1 HI1 HR1 HB1 d0 d1 d2 d34 d35 d36 hz1
  cases hg : i.good with
  | true =>
    obtain ⟨c0, c1, c2, c34, c35, c67, c68, c100, c101⟩ := st_out HS0.out hs
    obtain ⟨d0, d1, d2, d34, d35, d36⟩ := in_out HI0.out hi
    rw [hg] at d35
    have h1 := Kh1.out
    have h2 := Kh2.out
    have h3 := Kh3.out
    have k1 := Kk1.out
    have hlt := Khlt.out
    have ho := Kho.out
    have el : decide (i.round < 0) = false := by simpa using h1
    have em : decide (1048576 < i.round) = false := by simpa using h2
    have e4 : (s.step == 4) = false := by simpa using h3
    have en1 : (i.kind == 1) = true := by simp [k1]
    have en2 : (i.kind == 2) = false := by simp [k1]
    have en3 : (i.kind == 3) = false := by simp [k1]
    have en4 : (i.kind == 4) = false := by simp [k1]
    have en5 : (i.kind == 5) = false := by simp [k1]
    have en6 : (i.kind == 6) = false := by simp [k1]
    have en7 : (i.kind == 7) = false := by simp [k1]
    have en8 : (i.kind == 8) = false := by simp [k1]
    have en9 : (i.kind == 9) = false := by simp [k1]
    have en10 : (i.kind == 10) = false := by simp [k1]
    have en11 : (i.kind == 11) = false := by simp [k1]
    have en12 : (i.kind == 12) = false := by simp [k1]
    have elt : decide (i.round ≤ s.round) = false := by simp; omega
    have eo : (i.own == zeros) = true := by simp [ho]
    clear h1 h2 h3 k1 hlt ho
    have hfz := HS0.out.frozen 0
    go_upto_region 13 with (first | (refine wpList_val (by rfl) (run_load_seg 23 _ (by with_reducible rfl) _ _ (by rfl) _ (by assumption) 32 (by assumption) _ hu_hash (by rfl) hi_hash) ?_))
    obtain ⟨w1, hw1⟩ : ∃ x, w0.setCell ⟨gs, 0, none⟩ (.int .i64 i.round) = x := ⟨_, rfl⟩
    have HS1 : Hid (Bk w1 gs 31 (St.cells {s with round := i.round}).toArray) := Lib.hid (hw1 ▸ set_round HS0.out i.round)
    have HI1 : Hid (Bk w1 gi 36 i.cells.toArray) := Lib.hid (hw1 ▸ HI0.out.far (p := ⟨gs, 0, none⟩) (by show gi ≠ gs; omega) (.int .i64 i.round))
    have HR1 : Hid (Bk w1 gr 31 St.zero.cells.toArray) := Lib.hid (hw1 ▸ HR0.out.far (p := ⟨gs, 0, none⟩) (by show gr ≠ gs; omega) (.int .i64 i.round))
    have HB1 : Hid (Below gs w w1) := Lib.hid (hw1 ▸ HB0.out.setCell (by show gs ≤ gs; omega) _)
    rw [hw1]
    clear hw1 hfz
    clear c0 c1 c2 c34 c35 c67 c68 c100 c101 d0 d1 d2 d34 d35 d36
    obtain ⟨c0, c1, c2, c34, c35, c67, c68, c100, c101⟩ := st_out HS1.out (⟨hs.locked, hs.valid, hs.block⟩)
    obtain ⟨d0, d1, d2, d34, d35, d36⟩ := in_out HI1.out hi
    try dsimp only at c0 c1 c2 c34 c35 c67 c68 c100 c101
    have hfz := HS1.out.frozen 1
    go_upto_region 14 with (first | (refine wpList_val (by rfl) (run_load_seg 23 _ (by with_reducible rfl) _ _ (by rfl) _ (by assumption) 32 (by assumption) _ hu_hash (by rfl) hi_hash) ?_))
    obtain ⟨w2, hw2⟩ : ∃ x, w1.setCell ⟨gs, 1, none⟩ (.int .i64 1) = x := ⟨_, rfl⟩
    have HS2 : Hid (Bk w2 gs 31 (St.cells {s with round := i.round, step := 1}).toArray) := Lib.hid (hw2 ▸ set_step HS1.out 1)
    have HI2 : Hid (Bk w2 gi 36 i.cells.toArray) := Lib.hid (hw2 ▸ HI1.out.far (p := ⟨gs, 1, none⟩) (by show gi ≠ gs; omega) (.int .i64 1))
    have HR2 : Hid (Bk w2 gr 31 St.zero.cells.toArray) := Lib.hid (hw2 ▸ HR1.out.far (p := ⟨gs, 1, none⟩) (by show gr ≠ gs; omega) (.int .i64 1))
    have HB2 : Hid (Below gs w w2) := Lib.hid (hw2 ▸ HB1.out.setCell (by show gs ≤ gs; omega) _)
    rw [hw2]
    clear hw2 hfz
    clear c0 c1 c2 c34 c35 c67 c68 c100 c101 d0 d1 d2 d34 d35 d36
    obtain ⟨c0, c1, c2, c34, c35, c67, c68, c100, c101⟩ := st_out HS2.out (⟨hs.locked, hs.valid, hs.block⟩)
    obtain ⟨d0, d1, d2, d34, d35, d36⟩ := in_out HI2.out hi
    try dsimp only at c0 c1 c2 c34 c35 c67 c68 c100 c101
    go_upto_region 15 with (first | (refine wpList_val (by rfl) (run_load_seg 23 _ (by with_reducible rfl) _ _ (by rfl) _ (by assumption) 32 (by assumption) _ hu_hash (by rfl) hi_hash) ?_))
    clear c0 c1 c2 c34 c35 c67 c68 c100 c101 d0 d1 d2 d34 d35 d36
    obtain ⟨N, hN⟩ : ∃ N, w2.drew.heap.size = N := ⟨_, rfl⟩
    have HW : Hid (∀ W, Below w2.drew.heap.size w2.drew W → Bk W gs 31 (St.cells {s with round := i.round, step := 1}).toArray ∧ Bk W gi 36 i.cells.toArray ∧ Bk W gr 31 St.zero.cells.toArray) := Lib.hid (fun W h => ⟨HS2.out.drew.below h (HS2.out.drew.lt), HI2.out.drew.below h (HI2.out.drew.lt), HR2.out.drew.below h (HR2.out.drew.lt)⟩)
    have hgx : ({s with round := i.round, step := 1} : St).good := ⟨hs.locked, hs.valid, hs.block⟩
    have hsl1 := St.cells_len (s := {s with round := i.round, step := 1}) hgx
    have hbl1 : (bts ({s with round := i.round, step := 1} : St).valid).length = 32 := by rw [bts_len, hgx.valid]
    have hkl1 : (bts ({s with round := i.round, step := 1} : St).locked).length = 32 := by rw [bts_len, hgx.locked]
    refine wp_region_each_tail 4 (lstV [fun v _ => v = .agg (St.cells {s with round := i.round, step := 1}).toArray, fun v _ => v = .int .i64 i.round, fun v _ => v = .agg (bts zeros).toArray, fun v W => ROutAt W N v (some ⟨4, i.round, zeros, 0⟩)]) (by kernel_rfl) (by kernel_rfl) (lstV_on (by repeat' (first | exact forall_nil | refine forall_cons ?_ ?_ | exact stays_rout _ _ | exact stays_tup _ _ _ | exact stays_eq _))) ?turns ?fin
    case turns =>
      refine ⟨fun a W pre => ?_, fun a W pre => ?_, fun a W pre => ?_, fun a W pre => ?_, trivial⟩
      · refine .inl ?_
        have e2 : a.eval (.tmp 2) = .pointer (some ⟨gs, 0, none⟩) := pre.was 2 (by kernel_rfl) rfl
        have q2 := e2
        rw [Act.eval, Array.getD_eq_getD_getElem?] at q2
        exact does_val (want_none rfl) (run_load_seg 31 _ rfl gs 0 e2 (St.cells {s with round := i.round, step := 1}) (HW.out W pre.b).1.all 102 hsl1 _ Tryd.underlying31 rfl hi_rstate) rfl
      · refine .inl ?_
        have e6 : a.eval (.tmp 6) = .int .i64 i.round := pre.was 6 (by kernel_rfl) rfl
        have q6 := e6
        rw [Act.eval, Array.getD_eq_getD_getElem?] at q6
        exact does_val (want_none rfl) (by go_simp) rfl
      · refine .inl ?_
        exact does_val (want_none rfl) (run_build_at 23 _ rfl (bts zeros) (by exact made_noneR)) rfl
      · refine .inl ?_
        have e55 : a.eval (.tmp 55) = .int .i64 i.round := pre.val 1 55 (by kernel_rfl) (by kernel_rfl)
        have q55 := e55
        rw [Act.eval, Array.getD_eq_getD_getElem?] at q55
        have e56 : a.eval (.tmp 56) = .agg (bts zeros).toArray := pre.val 2 56 (by kernel_rfl) (by kernel_rfl)
        have q56 := e56
        rw [Act.eval, Array.getD_eq_getD_getElem?] at q56
        refine does_call_ex (want_none rfl) (by go_simp) ((rone_any 4 (i.round) 0 zeros zeros_len W).mono fun e W' hx => ?_)
        obtain ⟨u, h1, h2, h3⟩ := hx
        exact ⟨u, h1, h2.less (hN ▸ pre.b.size), h3⟩
    case fin =>
      intro a W hb hsz2 hd hv ho
      have qs : a.eval (.tmp 54) = .agg (St.cells {s with round := i.round, step := 1}).toArray := hv 0 54 (by decide) (by kernel_rfl)
      have qo : ROutAt W N (a.eval (.tmp 57)) (some ⟨4, i.round, zeros, 0⟩) := hv 3 57 (by decide) (by kernel_rfl)
      have q4 : a.eval (.tmp 4) = .pointer (some ⟨gr, 0, none⟩) := ho 4 (no_dst (by kernel_rfl))
      have hs8 : 300 < a.tmps.size := by rw [hsz2]; first | (simp; done) | (show 300 < 301; decide)
      have hbk := (HW.out W hb).2.2
      have hBD : Below gs w w2.drew := HB2.out.trans (by (first | assumption | (repeat (first | exact Below.refl _ _ | assumption | apply Below.drew | apply below_drewN | (refine Below.setCell ?_ (by (try simp) <;> omega) _) | (refine Below.alloc ?_ (by (try simp) <;> omega) _)))))
      have hBl : Below gs w W := hBD.trans (hb.mono (hgs ▸ hBD.size))
      have HBL := Lib.hid hBl
      simp only [List.drop_succ_cons, List.drop_zero]
      have hsl2 := St.cells_len (s := {s with round := i.round, step := 1}) hgx
      refine wpList_puts (want_none rfl) 31 _ _ rfl gr 0 q4 (St.cells {s with round := i.round, step := 1}) qs 31 St.zero.cells hbk 102 hsl2 (by rw [St.cells_len St.zero_good]; omega) hi_rstate St.one_cells ?_
      intro w7 hb7 hm7 hz7
      rw [put_all (by rw [St.cells_len St.zero_good]; exact hsl2)] at hb7
      have HB7 := Lib.hid hb7
      have HM7 := Lib.hid hm7
      obtain ⟨vo, hvo⟩ : ∃ v, a.eval (.tmp 57) = v := ⟨_, rfl⟩
      rw [hvo] at qo
      have HO := Lib.hid qo
      have p4 := q4
      have po := hvo
      rw [Act.eval, Array.getD_eq_getD_getElem?] at p4 po
      clear hb7 hm7 qo qs hBl
      go_wp2_with fail
      have go_ : a.tmps[57]'(by omega) = vo := by rw [Array.getElem?_eq_getElem (by omega)] at po; simpa using po
      have HBB := HBL
      have hNg : gr < N := by rw [← hN]; have := hbk.lt; have := HR2.out.drew.lt; omega
      have h1 := Kh1.out
      have h2 := Kh2.out
      have h3 := Kh3.out
      have k1 := Kk1.out
      have hlt := Khlt.out
      have ho := Kho.out
      refine bodyPost_ret (rstep_results (s := {s with round := i.round, step := 1}) (hgx) HB7.out ((set_getD_far (by decide)).trans q4) ((set_getD_same (by omega)).trans go_)) rfl ?_
      exact rstep_end (N := N) HO.out (by omega) (by omega) HM7.out (by rw [hgs]; exact HBB.out) (by first | (simp [stepF, nowF, lockF, lateF, prevF, precF, agreedF, beginOut, h1, h2, h3, k1, hlt, ho]; done) | (simp [stepF, nowF, lockF, lateF, prevF, precF, agreedF, beginOut, h1, h2, h3, k1, hlt, ho]; omega) | (simp [stepF, nowF, lockF, lateF, prevF, precF, agreedF, beginOut, h1, h2, h3, k1, hlt, ho]; intros; omega))
  | false =>
    obtain ⟨c0, c1, c2, c34, c35, c67, c68, c100, c101⟩ := st_out HS0.out hs
    obtain ⟨d0, d1, d2, d34, d35, d36⟩ := in_out HI0.out hi
    rw [hg] at d35
    have h1 := Kh1.out
    have h2 := Kh2.out
    have h3 := Kh3.out
    have k1 := Kk1.out
    have hlt := Khlt.out
    have ho := Kho.out
    have el : decide (i.round < 0) = false := by simpa using h1
    have em : decide (1048576 < i.round) = false := by simpa using h2
    have e4 : (s.step == 4) = false := by simpa using h3
    have en1 : (i.kind == 1) = true := by simp [k1]
    have en2 : (i.kind == 2) = false := by simp [k1]
    have en3 : (i.kind == 3) = false := by simp [k1]
    have en4 : (i.kind == 4) = false := by simp [k1]
    have en5 : (i.kind == 5) = false := by simp [k1]
    have en6 : (i.kind == 6) = false := by simp [k1]
    have en7 : (i.kind == 7) = false := by simp [k1]
    have en8 : (i.kind == 8) = false := by simp [k1]
    have en9 : (i.kind == 9) = false := by simp [k1]
    have en10 : (i.kind == 10) = false := by simp [k1]
    have en11 : (i.kind == 11) = false := by simp [k1]
    have en12 : (i.kind == 12) = false := by simp [k1]
    have elt : decide (i.round ≤ s.round) = false := by simp; omega
    have eo : (i.own == zeros) = true := by simp [ho]
    clear h1 h2 h3 k1 hlt ho
    have hfz := HS0.out.frozen 0
    go_upto_region 13 with (first | (refine wpList_val (by rfl) (run_load_seg 23 _ (by with_reducible rfl) _ _ (by rfl) _ (by assumption) 32 (by assumption) _ hu_hash (by rfl) hi_hash) ?_))
    obtain ⟨w1, hw1⟩ : ∃ x, w0.setCell ⟨gs, 0, none⟩ (.int .i64 i.round) = x := ⟨_, rfl⟩
    have HS1 : Hid (Bk w1 gs 31 (St.cells {s with round := i.round}).toArray) := Lib.hid (hw1 ▸ set_round HS0.out i.round)
    have HI1 : Hid (Bk w1 gi 36 i.cells.toArray) := Lib.hid (hw1 ▸ HI0.out.far (p := ⟨gs, 0, none⟩) (by show gi ≠ gs; omega) (.int .i64 i.round))
    have HR1 : Hid (Bk w1 gr 31 St.zero.cells.toArray) := Lib.hid (hw1 ▸ HR0.out.far (p := ⟨gs, 0, none⟩) (by show gr ≠ gs; omega) (.int .i64 i.round))
    have HB1 : Hid (Below gs w w1) := Lib.hid (hw1 ▸ HB0.out.setCell (by show gs ≤ gs; omega) _)
    rw [hw1]
    clear hw1 hfz
    clear c0 c1 c2 c34 c35 c67 c68 c100 c101 d0 d1 d2 d34 d35 d36
    obtain ⟨c0, c1, c2, c34, c35, c67, c68, c100, c101⟩ := st_out HS1.out (⟨hs.locked, hs.valid, hs.block⟩)
    obtain ⟨d0, d1, d2, d34, d35, d36⟩ := in_out HI1.out hi
    try dsimp only at c0 c1 c2 c34 c35 c67 c68 c100 c101
    have hfz := HS1.out.frozen 1
    go_upto_region 14 with (first | (refine wpList_val (by rfl) (run_load_seg 23 _ (by with_reducible rfl) _ _ (by rfl) _ (by assumption) 32 (by assumption) _ hu_hash (by rfl) hi_hash) ?_))
    obtain ⟨w2, hw2⟩ : ∃ x, w1.setCell ⟨gs, 1, none⟩ (.int .i64 1) = x := ⟨_, rfl⟩
    have HS2 : Hid (Bk w2 gs 31 (St.cells {s with round := i.round, step := 1}).toArray) := Lib.hid (hw2 ▸ set_step HS1.out 1)
    have HI2 : Hid (Bk w2 gi 36 i.cells.toArray) := Lib.hid (hw2 ▸ HI1.out.far (p := ⟨gs, 1, none⟩) (by show gi ≠ gs; omega) (.int .i64 1))
    have HR2 : Hid (Bk w2 gr 31 St.zero.cells.toArray) := Lib.hid (hw2 ▸ HR1.out.far (p := ⟨gs, 1, none⟩) (by show gr ≠ gs; omega) (.int .i64 1))
    have HB2 : Hid (Below gs w w2) := Lib.hid (hw2 ▸ HB1.out.setCell (by show gs ≤ gs; omega) _)
    rw [hw2]
    clear hw2 hfz
    clear c0 c1 c2 c34 c35 c67 c68 c100 c101 d0 d1 d2 d34 d35 d36
    obtain ⟨c0, c1, c2, c34, c35, c67, c68, c100, c101⟩ := st_out HS2.out (⟨hs.locked, hs.valid, hs.block⟩)
    obtain ⟨d0, d1, d2, d34, d35, d36⟩ := in_out HI2.out hi
    try dsimp only at c0 c1 c2 c34 c35 c67 c68 c100 c101
    go_upto_region 15 with (first | (refine wpList_val (by rfl) (run_load_seg 23 _ (by with_reducible rfl) _ _ (by rfl) _ (by assumption) 32 (by assumption) _ hu_hash (by rfl) hi_hash) ?_))
    clear c0 c1 c2 c34 c35 c67 c68 c100 c101 d0 d1 d2 d34 d35 d36
    obtain ⟨N, hN⟩ : ∃ N, w2.drew.heap.size = N := ⟨_, rfl⟩
    have HW : Hid (∀ W, Below w2.drew.heap.size w2.drew W → Bk W gs 31 (St.cells {s with round := i.round, step := 1}).toArray ∧ Bk W gi 36 i.cells.toArray ∧ Bk W gr 31 St.zero.cells.toArray) := Lib.hid (fun W h => ⟨HS2.out.drew.below h (HS2.out.drew.lt), HI2.out.drew.below h (HI2.out.drew.lt), HR2.out.drew.below h (HR2.out.drew.lt)⟩)
    have hgx : ({s with round := i.round, step := 1} : St).good := ⟨hs.locked, hs.valid, hs.block⟩
    have hsl1 := St.cells_len (s := {s with round := i.round, step := 1}) hgx
    have hbl1 : (bts ({s with round := i.round, step := 1} : St).valid).length = 32 := by rw [bts_len, hgx.valid]
    have hkl1 : (bts ({s with round := i.round, step := 1} : St).locked).length = 32 := by rw [bts_len, hgx.locked]
    refine wp_region_each_tail 4 (lstV [fun v _ => v = .agg (St.cells {s with round := i.round, step := 1}).toArray, fun v _ => v = .int .i64 i.round, fun v _ => v = .agg (bts zeros).toArray, fun v W => ROutAt W N v (some ⟨4, i.round, zeros, 0⟩)]) (by kernel_rfl) (by kernel_rfl) (lstV_on (by repeat' (first | exact forall_nil | refine forall_cons ?_ ?_ | exact stays_rout _ _ | exact stays_tup _ _ _ | exact stays_eq _))) ?turns ?fin
    case turns =>
      refine ⟨fun a W pre => ?_, fun a W pre => ?_, fun a W pre => ?_, fun a W pre => ?_, trivial⟩
      · refine .inl ?_
        have e2 : a.eval (.tmp 2) = .pointer (some ⟨gs, 0, none⟩) := pre.was 2 (by kernel_rfl) rfl
        have q2 := e2
        rw [Act.eval, Array.getD_eq_getD_getElem?] at q2
        exact does_val (want_none rfl) (run_load_seg 31 _ rfl gs 0 e2 (St.cells {s with round := i.round, step := 1}) (HW.out W pre.b).1.all 102 hsl1 _ Tryd.underlying31 rfl hi_rstate) rfl
      · refine .inl ?_
        have e6 : a.eval (.tmp 6) = .int .i64 i.round := pre.was 6 (by kernel_rfl) rfl
        have q6 := e6
        rw [Act.eval, Array.getD_eq_getD_getElem?] at q6
        exact does_val (want_none rfl) (by go_simp) rfl
      · refine .inl ?_
        exact does_val (want_none rfl) (run_build_at 23 _ rfl (bts zeros) (by exact made_noneR)) rfl
      · refine .inl ?_
        have e55 : a.eval (.tmp 55) = .int .i64 i.round := pre.val 1 55 (by kernel_rfl) (by kernel_rfl)
        have q55 := e55
        rw [Act.eval, Array.getD_eq_getD_getElem?] at q55
        have e56 : a.eval (.tmp 56) = .agg (bts zeros).toArray := pre.val 2 56 (by kernel_rfl) (by kernel_rfl)
        have q56 := e56
        rw [Act.eval, Array.getD_eq_getD_getElem?] at q56
        refine does_call_ex (want_none rfl) (by go_simp) ((rone_any 4 (i.round) 0 zeros zeros_len W).mono fun e W' hx => ?_)
        obtain ⟨u, h1, h2, h3⟩ := hx
        exact ⟨u, h1, h2.less (hN ▸ pre.b.size), h3⟩
    case fin =>
      intro a W hb hsz2 hd hv ho
      have qs : a.eval (.tmp 54) = .agg (St.cells {s with round := i.round, step := 1}).toArray := hv 0 54 (by decide) (by kernel_rfl)
      have qo : ROutAt W N (a.eval (.tmp 57)) (some ⟨4, i.round, zeros, 0⟩) := hv 3 57 (by decide) (by kernel_rfl)
      have q4 : a.eval (.tmp 4) = .pointer (some ⟨gr, 0, none⟩) := ho 4 (no_dst (by kernel_rfl))
      have hs8 : 300 < a.tmps.size := by rw [hsz2]; first | (simp; done) | (show 300 < 301; decide)
      have hbk := (HW.out W hb).2.2
      have hBD : Below gs w w2.drew := HB2.out.trans (by (first | assumption | (repeat (first | exact Below.refl _ _ | assumption | apply Below.drew | apply below_drewN | (refine Below.setCell ?_ (by (try simp) <;> omega) _) | (refine Below.alloc ?_ (by (try simp) <;> omega) _)))))
      have hBl : Below gs w W := hBD.trans (hb.mono (hgs ▸ hBD.size))
      have HBL := Lib.hid hBl
      simp only [List.drop_succ_cons, List.drop_zero]
      have hsl2 := St.cells_len (s := {s with round := i.round, step := 1}) hgx
      refine wpList_puts (want_none rfl) 31 _ _ rfl gr 0 q4 (St.cells {s with round := i.round, step := 1}) qs 31 St.zero.cells hbk 102 hsl2 (by rw [St.cells_len St.zero_good]; omega) hi_rstate St.one_cells ?_
      intro w7 hb7 hm7 hz7
      rw [put_all (by rw [St.cells_len St.zero_good]; exact hsl2)] at hb7
      have HB7 := Lib.hid hb7
      have HM7 := Lib.hid hm7
      obtain ⟨vo, hvo⟩ : ∃ v, a.eval (.tmp 57) = v := ⟨_, rfl⟩
      rw [hvo] at qo
      have HO := Lib.hid qo
      have p4 := q4
      have po := hvo
      rw [Act.eval, Array.getD_eq_getD_getElem?] at p4 po
      clear hb7 hm7 qo qs hBl
      go_wp2_with fail
      have go_ : a.tmps[57]'(by omega) = vo := by rw [Array.getElem?_eq_getElem (by omega)] at po; simpa using po
      have HBB := HBL
      have hNg : gr < N := by rw [← hN]; have := hbk.lt; have := HR2.out.drew.lt; omega
      have h1 := Kh1.out
      have h2 := Kh2.out
      have h3 := Kh3.out
      have k1 := Kk1.out
      have hlt := Khlt.out
      have ho := Kho.out
      refine bodyPost_ret (rstep_results (s := {s with round := i.round, step := 1}) (hgx) HB7.out ((set_getD_far (by decide)).trans q4) ((set_getD_same (by omega)).trans go_)) rfl ?_
      exact rstep_end (N := N) HO.out (by omega) (by omega) HM7.out (by rw [hgs]; exact HBB.out) (by first | (simp [stepF, nowF, lockF, lateF, prevF, precF, agreedF, beginOut, h1, h2, h3, k1, hlt, ho]; done) | (simp [stepF, nowF, lockF, lateF, prevF, precF, agreedF, beginOut, h1, h2, h3, k1, hlt, ho]; omega) | (simp [stepF, nowF, lockF, lateF, prevF, precF, agreedF, beginOut, h1, h2, h3, k1, hlt, ho]; intros; omega))

set_option maxRecDepth 100000 in
set_option maxHeartbeats 4000000 in
theorem rstepL_l1b (s : St) (i : In) (w : World) (hs : s.good) (hi : i.fits) (h1 : ¬ i.round < 0) (h2 : ¬ 1048576 < i.round) (h3 : ¬ s.step = 4) (k1 : i.kind = 1) (hlt : s.round < i.round) (ho : ¬ i.own = zeros) (hv : 0 ≤ s.vr) :
    Calls Tryd.prog 11 #[.agg s.cells.toArray, .agg i.cells.toArray] w (RTold w (stepF s i)) := by
  have Kh1 := Lib.hid h1
  have Kh2 := Lib.hid h2
  have Kh3 := Lib.hid h3
  have Kk1 := Lib.hid k1
  have Khlt := Lib.hid hlt
  have Kho := Lib.hid ho
  have Khv := Lib.hid hv
  clear h1 h2 h3 k1 hlt ho hv
  have hzs := zero_rstate
  have hz := zeros_len
  have hzl : (bts zeros).length = 32 := by rw [bts_len, zeros_len]
  have hbl : (bts i.block).length = 32 := by rw [bts_len, hi.block]
  have hol : (bts i.own).length = 32 := by rw [bts_len, hi.own]
  have hll : (bts s.locked).length = 32 := by rw [bts_len, hs.locked]
  have hvl : (bts s.valid).length = 32 := by rw [bts_len, hs.valid]
  have hib := hi.block
  have hio := hi.own
  have hsk := hs.locked
  have hcl := In.cells_len hi
  have hsl := St.cells_len hs
  go_enter Tryd.func11, Tryd.ntmps11
  go_upto_region 1 with fail
  have HS0 := Lib.hid (show Bk (((w.alloc (.cells s.cells.toArray 31)).alloc (.cells i.cells.toArray 36)).alloc (.cells St.zero.cells.toArray 31)) w.heap.size 31 s.cells.toArray from ((Bk.new w 31 s.cells.toArray).alloc _).alloc _)
  have HI0 := Lib.hid (show Bk (((w.alloc (.cells s.cells.toArray 31)).alloc (.cells i.cells.toArray 36)).alloc (.cells St.zero.cells.toArray 31)) (w.heap.size + 1) 36 i.cells.toArray from by have := (Bk.new (w.alloc (.cells s.cells.toArray 31)) 36 i.cells.toArray).alloc (.cells St.zero.cells.toArray 31); simpa using this)
  have HR0 := Lib.hid (show Bk (((w.alloc (.cells s.cells.toArray 31)).alloc (.cells i.cells.toArray 36)).alloc (.cells St.zero.cells.toArray 31)) (w.heap.size + 1 + 1) 31 St.zero.cells.toArray from by have := Bk.new ((w.alloc (.cells s.cells.toArray 31)).alloc (.cells i.cells.toArray 36)) 31 St.zero.cells.toArray; simpa using this)
  have HB0 := Lib.hid (show Below w.heap.size w (((w.alloc (.cells s.cells.toArray 31)).alloc (.cells i.cells.toArray 36)).alloc (.cells St.zero.cells.toArray 31)) from (by (first | assumption | (repeat (first | exact Below.refl _ _ | assumption | apply Below.drew | apply below_drewN | (refine Below.setCell ?_ (by (try simp) <;> omega) _) | (refine Below.alloc ?_ (by (try simp) <;> omega) _))))))
  obtain ⟨v0, hv0⟩ : ∃ v0, ((w.alloc (.cells s.cells.toArray 31)).alloc (.cells i.cells.toArray 36)).alloc (.cells St.zero.cells.toArray 31) = v0 := ⟨_, rfl⟩
  have hsz : v0.heap.size = w.heap.size + 1 + 1 + 1 := by rw [← hv0]; simp
  obtain ⟨gs, hgs⟩ : ∃ gs, w.heap.size = gs := ⟨_, rfl⟩
  rw [hv0] at HS0 HI0 HR0 HB0 ⊢
  rw [hgs] at HS0 HI0 HR0 HB0 hsz ⊢
  obtain ⟨gi, hgi⟩ : ∃ gi, gs + 1 = gi := ⟨_, rfl⟩
  rw [hgi] at HI0 HR0 hsz ⊢
  obtain ⟨gr, hgr⟩ : ∃ gr, gi + 1 = gr := ⟨_, rfl⟩
  rw [hgr] at HR0 hsz ⊢
  clear hv0 hzs
  obtain ⟨d0, d1, d2, d34, d35, d36⟩ := in_out HI0.out hi
  go_wp2_with (refine wpList_val (by rfl) (run_load_seg 23 _ (by with_reducible rfl) _ _ (by rfl) _ (by assumption) 32 (by assumption) _ hu_hash (by rfl) hi_hash) ?_)
  with_reducible refine (rempty_any i.block hi.block _).mono ?_
  rintro e v1 ⟨rfl, hb1⟩
  have HS1 := Lib.hid (HS0.out.below hb1 HS0.out.lt)
  have HI1 := Lib.hid (HI0.out.below hb1 HI0.out.lt)
  have HR1 := Lib.hid (HR0.out.below hb1 HR0.out.lt)
  have HB1 := Lib.hid (HB0.out.trans (hb1.mono (by omega)))
  have hz1 := hb1.size
  clear hb1 HS0 HI0 HR0 HB0 d0 d1 d2 d34 d35 d36
  obtain ⟨d0, d1, d2, d34, d35, d36⟩ := in_out HI1.out hi
  go_wp2_with (refine wpList_val (by rfl) (run_load_seg 23 _ (by with_reducible rfl) _ _ (by rfl) _ (by assumption) 32 (by assumption) _ hu_hash (by rfl) hi_hash) ?_)
  with_reducible refine (rempty_any i.own hi.own _).mono ?_
  rintro e w0 ⟨rfl, hb1⟩
  have HS0 := Lib.hid (HS1.out.below hb1 HS1.out.lt)
  have HI0 := Lib.hid (HI1.out.below hb1 HI1.out.lt)
  have HR0 := Lib.hid (HR1.out.below hb1 HR1.out.lt)
  have HB0 : Hid (Below gs w w0) := Lib.hid (HB1.out.trans (hb1.mono (by omega)))
  have hz0 : v0.heap.size ≤ w0.heap.size := Nat.le_trans hz1 hb1.size
  clear hb1 HS1 HI1 HR1 HB1 d0 d1 d2 d34 d35 d36 hz1
  cases hg : i.good with
  | true =>
    obtain ⟨c0, c1, c2, c34, c35, c67, c68, c100, c101⟩ := st_out HS0.out hs
    obtain ⟨d0, d1, d2, d34, d35, d36⟩ := in_out HI0.out hi
    rw [hg] at d35
    have h1 := Kh1.out
    have h2 := Kh2.out
    have h3 := Kh3.out
    have k1 := Kk1.out
    have hlt := Khlt.out
    have ho := Kho.out
    have hv := Khv.out
    have el : decide (i.round < 0) = false := by simpa using h1
    have em : decide (1048576 < i.round) = false := by simpa using h2
    have e4 : (s.step == 4) = false := by simpa using h3
    have en1 : (i.kind == 1) = true := by simp [k1]
    have en2 : (i.kind == 2) = false := by simp [k1]
    have en3 : (i.kind == 3) = false := by simp [k1]
    have en4 : (i.kind == 4) = false := by simp [k1]
    have en5 : (i.kind == 5) = false := by simp [k1]
    have en6 : (i.kind == 6) = false := by simp [k1]
    have en7 : (i.kind == 7) = false := by simp [k1]
    have en8 : (i.kind == 8) = false := by simp [k1]
    have en9 : (i.kind == 9) = false := by simp [k1]
    have en10 : (i.kind == 10) = false := by simp [k1]
    have en11 : (i.kind == 11) = false := by simp [k1]
    have en12 : (i.kind == 12) = false := by simp [k1]
    have elt : decide (i.round ≤ s.round) = false := by simp; omega
    have eo : (i.own == zeros) = false := by simpa using ho
    have f1 : decide (0 ≤ s.vr) = true := by simpa using hv
    clear h1 h2 h3 k1 hlt ho hv
    have hfz := HS0.out.frozen 0
    go_upto_region 13 with (first | (refine wpList_val (by rfl) (run_load_seg 23 _ (by with_reducible rfl) _ _ (by rfl) _ (by assumption) 32 (by assumption) _ hu_hash (by rfl) hi_hash) ?_))
    obtain ⟨w1, hw1⟩ : ∃ x, w0.setCell ⟨gs, 0, none⟩ (.int .i64 i.round) = x := ⟨_, rfl⟩
    have HS1 : Hid (Bk w1 gs 31 (St.cells {s with round := i.round}).toArray) := Lib.hid (hw1 ▸ set_round HS0.out i.round)
    have HI1 : Hid (Bk w1 gi 36 i.cells.toArray) := Lib.hid (hw1 ▸ HI0.out.far (p := ⟨gs, 0, none⟩) (by show gi ≠ gs; omega) (.int .i64 i.round))
    have HR1 : Hid (Bk w1 gr 31 St.zero.cells.toArray) := Lib.hid (hw1 ▸ HR0.out.far (p := ⟨gs, 0, none⟩) (by show gr ≠ gs; omega) (.int .i64 i.round))
    have HB1 : Hid (Below gs w w1) := Lib.hid (hw1 ▸ HB0.out.setCell (by show gs ≤ gs; omega) _)
    rw [hw1]
    clear hw1 hfz
    clear c0 c1 c2 c34 c35 c67 c68 c100 c101 d0 d1 d2 d34 d35 d36
    obtain ⟨c0, c1, c2, c34, c35, c67, c68, c100, c101⟩ := st_out HS1.out (⟨hs.locked, hs.valid, hs.block⟩)
    obtain ⟨d0, d1, d2, d34, d35, d36⟩ := in_out HI1.out hi
    try dsimp only at c0 c1 c2 c34 c35 c67 c68 c100 c101
    have hfz := HS1.out.frozen 1
    go_upto_region 14 with (first | (refine wpList_val (by rfl) (run_load_seg 23 _ (by with_reducible rfl) _ _ (by rfl) _ (by assumption) 32 (by assumption) _ hu_hash (by rfl) hi_hash) ?_))
    obtain ⟨w2, hw2⟩ : ∃ x, w1.setCell ⟨gs, 1, none⟩ (.int .i64 1) = x := ⟨_, rfl⟩
    have HS2 : Hid (Bk w2 gs 31 (St.cells {s with round := i.round, step := 1}).toArray) := Lib.hid (hw2 ▸ set_step HS1.out 1)
    have HI2 : Hid (Bk w2 gi 36 i.cells.toArray) := Lib.hid (hw2 ▸ HI1.out.far (p := ⟨gs, 1, none⟩) (by show gi ≠ gs; omega) (.int .i64 1))
    have HR2 : Hid (Bk w2 gr 31 St.zero.cells.toArray) := Lib.hid (hw2 ▸ HR1.out.far (p := ⟨gs, 1, none⟩) (by show gr ≠ gs; omega) (.int .i64 1))
    have HB2 : Hid (Below gs w w2) := Lib.hid (hw2 ▸ HB1.out.setCell (by show gs ≤ gs; omega) _)
    rw [hw2]
    clear hw2 hfz
    clear c0 c1 c2 c34 c35 c67 c68 c100 c101 d0 d1 d2 d34 d35 d36
    obtain ⟨c0, c1, c2, c34, c35, c67, c68, c100, c101⟩ := st_out HS2.out (⟨hs.locked, hs.valid, hs.block⟩)
    obtain ⟨d0, d1, d2, d34, d35, d36⟩ := in_out HI2.out hi
    try dsimp only at c0 c1 c2 c34 c35 c67 c68 c100 c101
    go_upto_region 17 with (first | (refine wpList_val (by rfl) (run_load_seg 23 _ (by with_reducible rfl) _ _ (by rfl) _ (by assumption) 32 (by assumption) _ hu_hash (by rfl) hi_hash) ?_))
    clear c0 c1 c2 c34 c35 c67 c68 c100 c101 d0 d1 d2 d34 d35 d36
    obtain ⟨N, hN⟩ : ∃ N, w2.drew.heap.size = N := ⟨_, rfl⟩
    have HW : Hid (∀ W, Below w2.drew.heap.size w2.drew W → Bk W gs 31 (St.cells {s with round := i.round, step := 1}).toArray ∧ Bk W gi 36 i.cells.toArray ∧ Bk W gr 31 St.zero.cells.toArray) := Lib.hid (fun W h => ⟨HS2.out.drew.below h (HS2.out.drew.lt), HI2.out.drew.below h (HI2.out.drew.lt), HR2.out.drew.below h (HR2.out.drew.lt)⟩)
    have hgx : ({s with round := i.round, step := 1} : St).good := ⟨hs.locked, hs.valid, hs.block⟩
    have hsl1 := St.cells_len (s := {s with round := i.round, step := 1}) hgx
    have hbl1 : (bts ({s with round := i.round, step := 1} : St).valid).length = 32 := by rw [bts_len, hgx.valid]
    have hkl1 : (bts ({s with round := i.round, step := 1} : St).locked).length = 32 := by rw [bts_len, hgx.locked]
    refine wp_region_each_tail 7 (lstV [fun v _ => v = .agg (St.cells {s with round := i.round, step := 1}).toArray, fun v _ => v = .int .i64 i.round, fun v _ => v = .pointer (some ⟨gs, 35, none⟩), fun v _ => v = .agg (bts s.valid).toArray, fun v _ => v = .pointer (some ⟨gs, 67, none⟩), fun v _ => v = .int .i64 (s.vr), fun v W => ROutAt W N v (some ⟨1, i.round, s.valid, s.vr⟩)]) (by kernel_rfl) (by kernel_rfl) (lstV_on (by repeat' (first | exact forall_nil | refine forall_cons ?_ ?_ | exact stays_rout _ _ | exact stays_tup _ _ _ | exact stays_eq _))) ?turns ?fin
    case turns =>
      refine ⟨fun a W pre => ?_, fun a W pre => ?_, fun a W pre => ?_, fun a W pre => ?_, fun a W pre => ?_, fun a W pre => ?_, fun a W pre => ?_, trivial⟩
      · refine .inl ?_
        have e2 : a.eval (.tmp 2) = .pointer (some ⟨gs, 0, none⟩) := pre.was 2 (by kernel_rfl) rfl
        have q2 := e2
        rw [Act.eval, Array.getD_eq_getD_getElem?] at q2
        exact does_val (want_none rfl) (run_load_seg 31 _ rfl gs 0 e2 (St.cells {s with round := i.round, step := 1}) (HW.out W pre.b).1.all 102 hsl1 _ Tryd.underlying31 rfl hi_rstate) rfl
      · refine .inl ?_
        have e6 : a.eval (.tmp 6) = .int .i64 i.round := pre.was 6 (by kernel_rfl) rfl
        have q6 := e6
        rw [Act.eval, Array.getD_eq_getD_getElem?] at q6
        exact does_val (want_none rfl) (by go_simp) rfl
      · refine .inl ?_
        have e2 : a.eval (.tmp 2) = .pointer (some ⟨gs, 0, none⟩) := pre.was 2 (by kernel_rfl) rfl
        have q2 := e2
        rw [Act.eval, Array.getD_eq_getD_getElem?] at q2
        exact does_val (want_none rfl) (by go_simp) rfl
      · refine .inl ?_
        have e63 : a.eval (.tmp 63) = .pointer (some ⟨gs, 35, none⟩) := pre.val 2 63 (by kernel_rfl) (by kernel_rfl)
        have q63 := e63
        rw [Act.eval, Array.getD_eq_getD_getElem?] at q63
        exact does_val (want_none rfl) (run_load_seg 23 _ rfl gs 35 e63 (bts s.valid) ((st_out (HW.out W pre.b).1 hgx).2.2.2.2.1) 32 hvl _ hu_hash rfl hi_hash) rfl
      · refine .inl ?_
        have e2 : a.eval (.tmp 2) = .pointer (some ⟨gs, 0, none⟩) := pre.was 2 (by kernel_rfl) rfl
        have q2 := e2
        rw [Act.eval, Array.getD_eq_getD_getElem?] at q2
        exact does_val (want_none rfl) (by go_simp) rfl
      · refine .inl ?_
        have e65 : a.eval (.tmp 65) = .pointer (some ⟨gs, 67, none⟩) := pre.val 4 65 (by kernel_rfl) (by kernel_rfl)
        have q65 := e65
        rw [Act.eval, Array.getD_eq_getD_getElem?] at q65
        have cc := (st_out (HW.out W pre.b).1 hgx).2.2.2.2.2.1
        exact does_val (want_none rfl) (by go_simp) rfl
      · refine .inl ?_
        have e62 : a.eval (.tmp 62) = .int .i64 i.round := pre.val 1 62 (by kernel_rfl) (by kernel_rfl)
        have q62 := e62
        rw [Act.eval, Array.getD_eq_getD_getElem?] at q62
        have e64 : a.eval (.tmp 64) = .agg (bts s.valid).toArray := pre.val 3 64 (by kernel_rfl) (by kernel_rfl)
        have q64 := e64
        rw [Act.eval, Array.getD_eq_getD_getElem?] at q64
        have e66 : a.eval (.tmp 66) = .int .i64 (s.vr) := pre.val 5 66 (by kernel_rfl) (by kernel_rfl)
        have q66 := e66
        rw [Act.eval, Array.getD_eq_getD_getElem?] at q66
        refine does_call_ex (want_none rfl) (by go_simp) ((rone_any 1 (i.round) s.vr s.valid hs.valid W).mono fun e W' hx => ?_)
        obtain ⟨u, h1, h2, h3⟩ := hx
        exact ⟨u, h1, h2.less (hN ▸ pre.b.size), h3⟩
    case fin =>
      intro a W hb hsz2 hd hv ho
      have qs : a.eval (.tmp 61) = .agg (St.cells {s with round := i.round, step := 1}).toArray := hv 0 61 (by decide) (by kernel_rfl)
      have qo : ROutAt W N (a.eval (.tmp 67)) (some ⟨1, i.round, s.valid, s.vr⟩) := hv 6 67 (by decide) (by kernel_rfl)
      have q4 : a.eval (.tmp 4) = .pointer (some ⟨gr, 0, none⟩) := ho 4 (no_dst (by kernel_rfl))
      have hs8 : 300 < a.tmps.size := by rw [hsz2]; first | (simp; done) | (show 300 < 301; decide)
      have hbk := (HW.out W hb).2.2
      have hBD : Below gs w w2.drew := HB2.out.trans (by (first | assumption | (repeat (first | exact Below.refl _ _ | assumption | apply Below.drew | apply below_drewN | (refine Below.setCell ?_ (by (try simp) <;> omega) _) | (refine Below.alloc ?_ (by (try simp) <;> omega) _)))))
      have hBl : Below gs w W := hBD.trans (hb.mono (hgs ▸ hBD.size))
      have HBL := Lib.hid hBl
      simp only [List.drop_succ_cons, List.drop_zero]
      have hsl2 := St.cells_len (s := {s with round := i.round, step := 1}) hgx
      refine wpList_puts (want_none rfl) 31 _ _ rfl gr 0 q4 (St.cells {s with round := i.round, step := 1}) qs 31 St.zero.cells hbk 102 hsl2 (by rw [St.cells_len St.zero_good]; omega) hi_rstate St.one_cells ?_
      intro w7 hb7 hm7 hz7
      rw [put_all (by rw [St.cells_len St.zero_good]; exact hsl2)] at hb7
      have HB7 := Lib.hid hb7
      have HM7 := Lib.hid hm7
      obtain ⟨vo, hvo⟩ : ∃ v, a.eval (.tmp 67) = v := ⟨_, rfl⟩
      rw [hvo] at qo
      have HO := Lib.hid qo
      have p4 := q4
      have po := hvo
      rw [Act.eval, Array.getD_eq_getD_getElem?] at p4 po
      clear hb7 hm7 qo qs hBl
      go_wp2_with fail
      have go_ : a.tmps[67]'(by omega) = vo := by rw [Array.getElem?_eq_getElem (by omega)] at po; simpa using po
      have HBB := HBL
      have hNg : gr < N := by rw [← hN]; have := hbk.lt; have := HR2.out.drew.lt; omega
      have h1 := Kh1.out
      have h2 := Kh2.out
      have h3 := Kh3.out
      have k1 := Kk1.out
      have hlt := Khlt.out
      have ho := Kho.out
      have hv := Khv.out
      refine bodyPost_ret (rstep_results (s := {s with round := i.round, step := 1}) (hgx) HB7.out ((set_getD_far (by decide)).trans q4) ((set_getD_same (by omega)).trans go_)) rfl ?_
      exact rstep_end (N := N) HO.out (by omega) (by omega) HM7.out (by rw [hgs]; exact HBB.out) (by first | (simp [stepF, nowF, lockF, lateF, prevF, precF, agreedF, beginOut, h1, h2, h3, k1, hlt, ho, hv]; done) | (simp [stepF, nowF, lockF, lateF, prevF, precF, agreedF, beginOut, h1, h2, h3, k1, hlt, ho, hv]; omega) | (simp [stepF, nowF, lockF, lateF, prevF, precF, agreedF, beginOut, h1, h2, h3, k1, hlt, ho, hv]; intros; omega))
  | false =>
    obtain ⟨c0, c1, c2, c34, c35, c67, c68, c100, c101⟩ := st_out HS0.out hs
    obtain ⟨d0, d1, d2, d34, d35, d36⟩ := in_out HI0.out hi
    rw [hg] at d35
    have h1 := Kh1.out
    have h2 := Kh2.out
    have h3 := Kh3.out
    have k1 := Kk1.out
    have hlt := Khlt.out
    have ho := Kho.out
    have hv := Khv.out
    have el : decide (i.round < 0) = false := by simpa using h1
    have em : decide (1048576 < i.round) = false := by simpa using h2
    have e4 : (s.step == 4) = false := by simpa using h3
    have en1 : (i.kind == 1) = true := by simp [k1]
    have en2 : (i.kind == 2) = false := by simp [k1]
    have en3 : (i.kind == 3) = false := by simp [k1]
    have en4 : (i.kind == 4) = false := by simp [k1]
    have en5 : (i.kind == 5) = false := by simp [k1]
    have en6 : (i.kind == 6) = false := by simp [k1]
    have en7 : (i.kind == 7) = false := by simp [k1]
    have en8 : (i.kind == 8) = false := by simp [k1]
    have en9 : (i.kind == 9) = false := by simp [k1]
    have en10 : (i.kind == 10) = false := by simp [k1]
    have en11 : (i.kind == 11) = false := by simp [k1]
    have en12 : (i.kind == 12) = false := by simp [k1]
    have elt : decide (i.round ≤ s.round) = false := by simp; omega
    have eo : (i.own == zeros) = false := by simpa using ho
    have f1 : decide (0 ≤ s.vr) = true := by simpa using hv
    clear h1 h2 h3 k1 hlt ho hv
    have hfz := HS0.out.frozen 0
    go_upto_region 13 with (first | (refine wpList_val (by rfl) (run_load_seg 23 _ (by with_reducible rfl) _ _ (by rfl) _ (by assumption) 32 (by assumption) _ hu_hash (by rfl) hi_hash) ?_))
    obtain ⟨w1, hw1⟩ : ∃ x, w0.setCell ⟨gs, 0, none⟩ (.int .i64 i.round) = x := ⟨_, rfl⟩
    have HS1 : Hid (Bk w1 gs 31 (St.cells {s with round := i.round}).toArray) := Lib.hid (hw1 ▸ set_round HS0.out i.round)
    have HI1 : Hid (Bk w1 gi 36 i.cells.toArray) := Lib.hid (hw1 ▸ HI0.out.far (p := ⟨gs, 0, none⟩) (by show gi ≠ gs; omega) (.int .i64 i.round))
    have HR1 : Hid (Bk w1 gr 31 St.zero.cells.toArray) := Lib.hid (hw1 ▸ HR0.out.far (p := ⟨gs, 0, none⟩) (by show gr ≠ gs; omega) (.int .i64 i.round))
    have HB1 : Hid (Below gs w w1) := Lib.hid (hw1 ▸ HB0.out.setCell (by show gs ≤ gs; omega) _)
    rw [hw1]
    clear hw1 hfz
    clear c0 c1 c2 c34 c35 c67 c68 c100 c101 d0 d1 d2 d34 d35 d36
    obtain ⟨c0, c1, c2, c34, c35, c67, c68, c100, c101⟩ := st_out HS1.out (⟨hs.locked, hs.valid, hs.block⟩)
    obtain ⟨d0, d1, d2, d34, d35, d36⟩ := in_out HI1.out hi
    try dsimp only at c0 c1 c2 c34 c35 c67 c68 c100 c101
    have hfz := HS1.out.frozen 1
    go_upto_region 14 with (first | (refine wpList_val (by rfl) (run_load_seg 23 _ (by with_reducible rfl) _ _ (by rfl) _ (by assumption) 32 (by assumption) _ hu_hash (by rfl) hi_hash) ?_))
    obtain ⟨w2, hw2⟩ : ∃ x, w1.setCell ⟨gs, 1, none⟩ (.int .i64 1) = x := ⟨_, rfl⟩
    have HS2 : Hid (Bk w2 gs 31 (St.cells {s with round := i.round, step := 1}).toArray) := Lib.hid (hw2 ▸ set_step HS1.out 1)
    have HI2 : Hid (Bk w2 gi 36 i.cells.toArray) := Lib.hid (hw2 ▸ HI1.out.far (p := ⟨gs, 1, none⟩) (by show gi ≠ gs; omega) (.int .i64 1))
    have HR2 : Hid (Bk w2 gr 31 St.zero.cells.toArray) := Lib.hid (hw2 ▸ HR1.out.far (p := ⟨gs, 1, none⟩) (by show gr ≠ gs; omega) (.int .i64 1))
    have HB2 : Hid (Below gs w w2) := Lib.hid (hw2 ▸ HB1.out.setCell (by show gs ≤ gs; omega) _)
    rw [hw2]
    clear hw2 hfz
    clear c0 c1 c2 c34 c35 c67 c68 c100 c101 d0 d1 d2 d34 d35 d36
    obtain ⟨c0, c1, c2, c34, c35, c67, c68, c100, c101⟩ := st_out HS2.out (⟨hs.locked, hs.valid, hs.block⟩)
    obtain ⟨d0, d1, d2, d34, d35, d36⟩ := in_out HI2.out hi
    try dsimp only at c0 c1 c2 c34 c35 c67 c68 c100 c101
    go_upto_region 17 with (first | (refine wpList_val (by rfl) (run_load_seg 23 _ (by with_reducible rfl) _ _ (by rfl) _ (by assumption) 32 (by assumption) _ hu_hash (by rfl) hi_hash) ?_))
    clear c0 c1 c2 c34 c35 c67 c68 c100 c101 d0 d1 d2 d34 d35 d36
    obtain ⟨N, hN⟩ : ∃ N, w2.drew.heap.size = N := ⟨_, rfl⟩
    have HW : Hid (∀ W, Below w2.drew.heap.size w2.drew W → Bk W gs 31 (St.cells {s with round := i.round, step := 1}).toArray ∧ Bk W gi 36 i.cells.toArray ∧ Bk W gr 31 St.zero.cells.toArray) := Lib.hid (fun W h => ⟨HS2.out.drew.below h (HS2.out.drew.lt), HI2.out.drew.below h (HI2.out.drew.lt), HR2.out.drew.below h (HR2.out.drew.lt)⟩)
    have hgx : ({s with round := i.round, step := 1} : St).good := ⟨hs.locked, hs.valid, hs.block⟩
    have hsl1 := St.cells_len (s := {s with round := i.round, step := 1}) hgx
    have hbl1 : (bts ({s with round := i.round, step := 1} : St).valid).length = 32 := by rw [bts_len, hgx.valid]
    have hkl1 : (bts ({s with round := i.round, step := 1} : St).locked).length = 32 := by rw [bts_len, hgx.locked]
    refine wp_region_each_tail 7 (lstV [fun v _ => v = .agg (St.cells {s with round := i.round, step := 1}).toArray, fun v _ => v = .int .i64 i.round, fun v _ => v = .pointer (some ⟨gs, 35, none⟩), fun v _ => v = .agg (bts s.valid).toArray, fun v _ => v = .pointer (some ⟨gs, 67, none⟩), fun v _ => v = .int .i64 (s.vr), fun v W => ROutAt W N v (some ⟨1, i.round, s.valid, s.vr⟩)]) (by kernel_rfl) (by kernel_rfl) (lstV_on (by repeat' (first | exact forall_nil | refine forall_cons ?_ ?_ | exact stays_rout _ _ | exact stays_tup _ _ _ | exact stays_eq _))) ?turns ?fin
    case turns =>
      refine ⟨fun a W pre => ?_, fun a W pre => ?_, fun a W pre => ?_, fun a W pre => ?_, fun a W pre => ?_, fun a W pre => ?_, fun a W pre => ?_, trivial⟩
      · refine .inl ?_
        have e2 : a.eval (.tmp 2) = .pointer (some ⟨gs, 0, none⟩) := pre.was 2 (by kernel_rfl) rfl
        have q2 := e2
        rw [Act.eval, Array.getD_eq_getD_getElem?] at q2
        exact does_val (want_none rfl) (run_load_seg 31 _ rfl gs 0 e2 (St.cells {s with round := i.round, step := 1}) (HW.out W pre.b).1.all 102 hsl1 _ Tryd.underlying31 rfl hi_rstate) rfl
      · refine .inl ?_
        have e6 : a.eval (.tmp 6) = .int .i64 i.round := pre.was 6 (by kernel_rfl) rfl
        have q6 := e6
        rw [Act.eval, Array.getD_eq_getD_getElem?] at q6
        exact does_val (want_none rfl) (by go_simp) rfl
      · refine .inl ?_
        have e2 : a.eval (.tmp 2) = .pointer (some ⟨gs, 0, none⟩) := pre.was 2 (by kernel_rfl) rfl
        have q2 := e2
        rw [Act.eval, Array.getD_eq_getD_getElem?] at q2
        exact does_val (want_none rfl) (by go_simp) rfl
      · refine .inl ?_
        have e63 : a.eval (.tmp 63) = .pointer (some ⟨gs, 35, none⟩) := pre.val 2 63 (by kernel_rfl) (by kernel_rfl)
        have q63 := e63
        rw [Act.eval, Array.getD_eq_getD_getElem?] at q63
        exact does_val (want_none rfl) (run_load_seg 23 _ rfl gs 35 e63 (bts s.valid) ((st_out (HW.out W pre.b).1 hgx).2.2.2.2.1) 32 hvl _ hu_hash rfl hi_hash) rfl
      · refine .inl ?_
        have e2 : a.eval (.tmp 2) = .pointer (some ⟨gs, 0, none⟩) := pre.was 2 (by kernel_rfl) rfl
        have q2 := e2
        rw [Act.eval, Array.getD_eq_getD_getElem?] at q2
        exact does_val (want_none rfl) (by go_simp) rfl
      · refine .inl ?_
        have e65 : a.eval (.tmp 65) = .pointer (some ⟨gs, 67, none⟩) := pre.val 4 65 (by kernel_rfl) (by kernel_rfl)
        have q65 := e65
        rw [Act.eval, Array.getD_eq_getD_getElem?] at q65
        have cc := (st_out (HW.out W pre.b).1 hgx).2.2.2.2.2.1
        exact does_val (want_none rfl) (by go_simp) rfl
      · refine .inl ?_
        have e62 : a.eval (.tmp 62) = .int .i64 i.round := pre.val 1 62 (by kernel_rfl) (by kernel_rfl)
        have q62 := e62
        rw [Act.eval, Array.getD_eq_getD_getElem?] at q62
        have e64 : a.eval (.tmp 64) = .agg (bts s.valid).toArray := pre.val 3 64 (by kernel_rfl) (by kernel_rfl)
        have q64 := e64
        rw [Act.eval, Array.getD_eq_getD_getElem?] at q64
        have e66 : a.eval (.tmp 66) = .int .i64 (s.vr) := pre.val 5 66 (by kernel_rfl) (by kernel_rfl)
        have q66 := e66
        rw [Act.eval, Array.getD_eq_getD_getElem?] at q66
        refine does_call_ex (want_none rfl) (by go_simp) ((rone_any 1 (i.round) s.vr s.valid hs.valid W).mono fun e W' hx => ?_)
        obtain ⟨u, h1, h2, h3⟩ := hx
        exact ⟨u, h1, h2.less (hN ▸ pre.b.size), h3⟩
    case fin =>
      intro a W hb hsz2 hd hv ho
      have qs : a.eval (.tmp 61) = .agg (St.cells {s with round := i.round, step := 1}).toArray := hv 0 61 (by decide) (by kernel_rfl)
      have qo : ROutAt W N (a.eval (.tmp 67)) (some ⟨1, i.round, s.valid, s.vr⟩) := hv 6 67 (by decide) (by kernel_rfl)
      have q4 : a.eval (.tmp 4) = .pointer (some ⟨gr, 0, none⟩) := ho 4 (no_dst (by kernel_rfl))
      have hs8 : 300 < a.tmps.size := by rw [hsz2]; first | (simp; done) | (show 300 < 301; decide)
      have hbk := (HW.out W hb).2.2
      have hBD : Below gs w w2.drew := HB2.out.trans (by (first | assumption | (repeat (first | exact Below.refl _ _ | assumption | apply Below.drew | apply below_drewN | (refine Below.setCell ?_ (by (try simp) <;> omega) _) | (refine Below.alloc ?_ (by (try simp) <;> omega) _)))))
      have hBl : Below gs w W := hBD.trans (hb.mono (hgs ▸ hBD.size))
      have HBL := Lib.hid hBl
      simp only [List.drop_succ_cons, List.drop_zero]
      have hsl2 := St.cells_len (s := {s with round := i.round, step := 1}) hgx
      refine wpList_puts (want_none rfl) 31 _ _ rfl gr 0 q4 (St.cells {s with round := i.round, step := 1}) qs 31 St.zero.cells hbk 102 hsl2 (by rw [St.cells_len St.zero_good]; omega) hi_rstate St.one_cells ?_
      intro w7 hb7 hm7 hz7
      rw [put_all (by rw [St.cells_len St.zero_good]; exact hsl2)] at hb7
      have HB7 := Lib.hid hb7
      have HM7 := Lib.hid hm7
      obtain ⟨vo, hvo⟩ : ∃ v, a.eval (.tmp 67) = v := ⟨_, rfl⟩
      rw [hvo] at qo
      have HO := Lib.hid qo
      have p4 := q4
      have po := hvo
      rw [Act.eval, Array.getD_eq_getD_getElem?] at p4 po
      clear hb7 hm7 qo qs hBl
      go_wp2_with fail
      have go_ : a.tmps[67]'(by omega) = vo := by rw [Array.getElem?_eq_getElem (by omega)] at po; simpa using po
      have HBB := HBL
      have hNg : gr < N := by rw [← hN]; have := hbk.lt; have := HR2.out.drew.lt; omega
      have h1 := Kh1.out
      have h2 := Kh2.out
      have h3 := Kh3.out
      have k1 := Kk1.out
      have hlt := Khlt.out
      have ho := Kho.out
      have hv := Khv.out
      refine bodyPost_ret (rstep_results (s := {s with round := i.round, step := 1}) (hgx) HB7.out ((set_getD_far (by decide)).trans q4) ((set_getD_same (by omega)).trans go_)) rfl ?_
      exact rstep_end (N := N) HO.out (by omega) (by omega) HM7.out (by rw [hgs]; exact HBB.out) (by first | (simp [stepF, nowF, lockF, lateF, prevF, precF, agreedF, beginOut, h1, h2, h3, k1, hlt, ho, hv]; done) | (simp [stepF, nowF, lockF, lateF, prevF, precF, agreedF, beginOut, h1, h2, h3, k1, hlt, ho, hv]; omega) | (simp [stepF, nowF, lockF, lateF, prevF, precF, agreedF, beginOut, h1, h2, h3, k1, hlt, ho, hv]; intros; omega))

set_option maxRecDepth 100000 in
set_option maxHeartbeats 4000000 in
theorem rstepL_l1c (s : St) (i : In) (w : World) (hs : s.good) (hi : i.fits) (h1 : ¬ i.round < 0) (h2 : ¬ 1048576 < i.round) (h3 : ¬ s.step = 4) (k1 : i.kind = 1) (hlt : s.round < i.round) (ho : ¬ i.own = zeros) (hv : s.vr < 0) :
    Calls Tryd.prog 11 #[.agg s.cells.toArray, .agg i.cells.toArray] w (RTold w (stepF s i)) := by
  have Kh1 := Lib.hid h1
  have Kh2 := Lib.hid h2
  have Kh3 := Lib.hid h3
  have Kk1 := Lib.hid k1
  have Khlt := Lib.hid hlt
  have Kho := Lib.hid ho
  have Khv := Lib.hid hv
  clear h1 h2 h3 k1 hlt ho hv
  have hzs := zero_rstate
  have hz := zeros_len
  have hzl : (bts zeros).length = 32 := by rw [bts_len, zeros_len]
  have hbl : (bts i.block).length = 32 := by rw [bts_len, hi.block]
  have hol : (bts i.own).length = 32 := by rw [bts_len, hi.own]
  have hll : (bts s.locked).length = 32 := by rw [bts_len, hs.locked]
  have hvl : (bts s.valid).length = 32 := by rw [bts_len, hs.valid]
  have hib := hi.block
  have hio := hi.own
  have hsk := hs.locked
  have hcl := In.cells_len hi
  have hsl := St.cells_len hs
  go_enter Tryd.func11, Tryd.ntmps11
  go_upto_region 1 with fail
  have HS0 := Lib.hid (show Bk (((w.alloc (.cells s.cells.toArray 31)).alloc (.cells i.cells.toArray 36)).alloc (.cells St.zero.cells.toArray 31)) w.heap.size 31 s.cells.toArray from ((Bk.new w 31 s.cells.toArray).alloc _).alloc _)
  have HI0 := Lib.hid (show Bk (((w.alloc (.cells s.cells.toArray 31)).alloc (.cells i.cells.toArray 36)).alloc (.cells St.zero.cells.toArray 31)) (w.heap.size + 1) 36 i.cells.toArray from by have := (Bk.new (w.alloc (.cells s.cells.toArray 31)) 36 i.cells.toArray).alloc (.cells St.zero.cells.toArray 31); simpa using this)
  have HR0 := Lib.hid (show Bk (((w.alloc (.cells s.cells.toArray 31)).alloc (.cells i.cells.toArray 36)).alloc (.cells St.zero.cells.toArray 31)) (w.heap.size + 1 + 1) 31 St.zero.cells.toArray from by have := Bk.new ((w.alloc (.cells s.cells.toArray 31)).alloc (.cells i.cells.toArray 36)) 31 St.zero.cells.toArray; simpa using this)
  have HB0 := Lib.hid (show Below w.heap.size w (((w.alloc (.cells s.cells.toArray 31)).alloc (.cells i.cells.toArray 36)).alloc (.cells St.zero.cells.toArray 31)) from (by (first | assumption | (repeat (first | exact Below.refl _ _ | assumption | apply Below.drew | apply below_drewN | (refine Below.setCell ?_ (by (try simp) <;> omega) _) | (refine Below.alloc ?_ (by (try simp) <;> omega) _))))))
  obtain ⟨v0, hv0⟩ : ∃ v0, ((w.alloc (.cells s.cells.toArray 31)).alloc (.cells i.cells.toArray 36)).alloc (.cells St.zero.cells.toArray 31) = v0 := ⟨_, rfl⟩
  have hsz : v0.heap.size = w.heap.size + 1 + 1 + 1 := by rw [← hv0]; simp
  obtain ⟨gs, hgs⟩ : ∃ gs, w.heap.size = gs := ⟨_, rfl⟩
  rw [hv0] at HS0 HI0 HR0 HB0 ⊢
  rw [hgs] at HS0 HI0 HR0 HB0 hsz ⊢
  obtain ⟨gi, hgi⟩ : ∃ gi, gs + 1 = gi := ⟨_, rfl⟩
  rw [hgi] at HI0 HR0 hsz ⊢
  obtain ⟨gr, hgr⟩ : ∃ gr, gi + 1 = gr := ⟨_, rfl⟩
  rw [hgr] at HR0 hsz ⊢
  clear hv0 hzs
  obtain ⟨d0, d1, d2, d34, d35, d36⟩ := in_out HI0.out hi
  go_wp2_with (refine wpList_val (by rfl) (run_load_seg 23 _ (by with_reducible rfl) _ _ (by rfl) _ (by assumption) 32 (by assumption) _ hu_hash (by rfl) hi_hash) ?_)
  with_reducible refine (rempty_any i.block hi.block _).mono ?_
  rintro e v1 ⟨rfl, hb1⟩
  have HS1 := Lib.hid (HS0.out.below hb1 HS0.out.lt)
  have HI1 := Lib.hid (HI0.out.below hb1 HI0.out.lt)
  have HR1 := Lib.hid (HR0.out.below hb1 HR0.out.lt)
  have HB1 := Lib.hid (HB0.out.trans (hb1.mono (by omega)))
  have hz1 := hb1.size
  clear hb1 HS0 HI0 HR0 HB0 d0 d1 d2 d34 d35 d36
  obtain ⟨d0, d1, d2, d34, d35, d36⟩ := in_out HI1.out hi
  go_wp2_with (refine wpList_val (by rfl) (run_load_seg 23 _ (by with_reducible rfl) _ _ (by rfl) _ (by assumption) 32 (by assumption) _ hu_hash (by rfl) hi_hash) ?_)
  with_reducible refine (rempty_any i.own hi.own _).mono ?_
  rintro e w0 ⟨rfl, hb1⟩
  have HS0 := Lib.hid (HS1.out.below hb1 HS1.out.lt)
  have HI0 := Lib.hid (HI1.out.below hb1 HI1.out.lt)
  have HR0 := Lib.hid (HR1.out.below hb1 HR1.out.lt)
  have HB0 : Hid (Below gs w w0) := Lib.hid (HB1.out.trans (hb1.mono (by omega)))
  have hz0 : v0.heap.size ≤ w0.heap.size := Nat.le_trans hz1 hb1.size
  clear hb1 HS1 HI1 HR1 HB1 d0 d1 d2 d34 d35 d36 hz1
  cases hg : i.good with
  | true =>
    obtain ⟨c0, c1, c2, c34, c35, c67, c68, c100, c101⟩ := st_out HS0.out hs
    obtain ⟨d0, d1, d2, d34, d35, d36⟩ := in_out HI0.out hi
    rw [hg] at d35
    have h1 := Kh1.out
    have h2 := Kh2.out
    have h3 := Kh3.out
    have k1 := Kk1.out
    have hlt := Khlt.out
    have ho := Kho.out
    have hv := Khv.out
    have el : decide (i.round < 0) = false := by simpa using h1
    have em : decide (1048576 < i.round) = false := by simpa using h2
    have e4 : (s.step == 4) = false := by simpa using h3
    have en1 : (i.kind == 1) = true := by simp [k1]
    have en2 : (i.kind == 2) = false := by simp [k1]
    have en3 : (i.kind == 3) = false := by simp [k1]
    have en4 : (i.kind == 4) = false := by simp [k1]
    have en5 : (i.kind == 5) = false := by simp [k1]
    have en6 : (i.kind == 6) = false := by simp [k1]
    have en7 : (i.kind == 7) = false := by simp [k1]
    have en8 : (i.kind == 8) = false := by simp [k1]
    have en9 : (i.kind == 9) = false := by simp [k1]
    have en10 : (i.kind == 10) = false := by simp [k1]
    have en11 : (i.kind == 11) = false := by simp [k1]
    have en12 : (i.kind == 12) = false := by simp [k1]
    have elt : decide (i.round ≤ s.round) = false := by simp; omega
    have eo : (i.own == zeros) = false := by simpa using ho
    have f1 : decide (0 ≤ s.vr) = false := by simpa using hv
    clear h1 h2 h3 k1 hlt ho hv
    have hfz := HS0.out.frozen 0
    go_upto_region 13 with (first | (refine wpList_val (by rfl) (run_load_seg 23 _ (by with_reducible rfl) _ _ (by rfl) _ (by assumption) 32 (by assumption) _ hu_hash (by rfl) hi_hash) ?_))
    obtain ⟨w1, hw1⟩ : ∃ x, w0.setCell ⟨gs, 0, none⟩ (.int .i64 i.round) = x := ⟨_, rfl⟩
    have HS1 : Hid (Bk w1 gs 31 (St.cells {s with round := i.round}).toArray) := Lib.hid (hw1 ▸ set_round HS0.out i.round)
    have HI1 : Hid (Bk w1 gi 36 i.cells.toArray) := Lib.hid (hw1 ▸ HI0.out.far (p := ⟨gs, 0, none⟩) (by show gi ≠ gs; omega) (.int .i64 i.round))
    have HR1 : Hid (Bk w1 gr 31 St.zero.cells.toArray) := Lib.hid (hw1 ▸ HR0.out.far (p := ⟨gs, 0, none⟩) (by show gr ≠ gs; omega) (.int .i64 i.round))
    have HB1 : Hid (Below gs w w1) := Lib.hid (hw1 ▸ HB0.out.setCell (by show gs ≤ gs; omega) _)
    rw [hw1]
    clear hw1 hfz
    clear c0 c1 c2 c34 c35 c67 c68 c100 c101 d0 d1 d2 d34 d35 d36
    obtain ⟨c0, c1, c2, c34, c35, c67, c68, c100, c101⟩ := st_out HS1.out (⟨hs.locked, hs.valid, hs.block⟩)
    obtain ⟨d0, d1, d2, d34, d35, d36⟩ := in_out HI1.out hi
    try dsimp only at c0 c1 c2 c34 c35 c67 c68 c100 c101
    have hfz := HS1.out.frozen 1
    go_upto_region 14 with (first | (refine wpList_val (by rfl) (run_load_seg 23 _ (by with_reducible rfl) _ _ (by rfl) _ (by assumption) 32 (by assumption) _ hu_hash (by rfl) hi_hash) ?_))
    obtain ⟨w2, hw2⟩ : ∃ x, w1.setCell ⟨gs, 1, none⟩ (.int .i64 1) = x := ⟨_, rfl⟩
    have HS2 : Hid (Bk w2 gs 31 (St.cells {s with round := i.round, step := 1}).toArray) := Lib.hid (hw2 ▸ set_step HS1.out 1)
    have HI2 : Hid (Bk w2 gi 36 i.cells.toArray) := Lib.hid (hw2 ▸ HI1.out.far (p := ⟨gs, 1, none⟩) (by show gi ≠ gs; omega) (.int .i64 1))
    have HR2 : Hid (Bk w2 gr 31 St.zero.cells.toArray) := Lib.hid (hw2 ▸ HR1.out.far (p := ⟨gs, 1, none⟩) (by show gr ≠ gs; omega) (.int .i64 1))
    have HB2 : Hid (Below gs w w2) := Lib.hid (hw2 ▸ HB1.out.setCell (by show gs ≤ gs; omega) _)
    rw [hw2]
    clear hw2 hfz
    clear c0 c1 c2 c34 c35 c67 c68 c100 c101 d0 d1 d2 d34 d35 d36
    obtain ⟨c0, c1, c2, c34, c35, c67, c68, c100, c101⟩ := st_out HS2.out (⟨hs.locked, hs.valid, hs.block⟩)
    obtain ⟨d0, d1, d2, d34, d35, d36⟩ := in_out HI2.out hi
    try dsimp only at c0 c1 c2 c34 c35 c67 c68 c100 c101
    go_upto_region 18 with (first | (refine wpList_val (by rfl) (run_load_seg 23 _ (by with_reducible rfl) _ _ (by rfl) _ (by assumption) 32 (by assumption) _ hu_hash (by rfl) hi_hash) ?_))
    clear c0 c1 c2 c34 c35 c67 c68 c100 c101 d0 d1 d2 d34 d35 d36
    obtain ⟨N, hN⟩ : ∃ N, w2.drew.heap.size = N := ⟨_, rfl⟩
    have HW : Hid (∀ W, Below w2.drew.heap.size w2.drew W → Bk W gs 31 (St.cells {s with round := i.round, step := 1}).toArray ∧ Bk W gi 36 i.cells.toArray ∧ Bk W gr 31 St.zero.cells.toArray) := Lib.hid (fun W h => ⟨HS2.out.drew.below h (HS2.out.drew.lt), HI2.out.drew.below h (HI2.out.drew.lt), HR2.out.drew.below h (HR2.out.drew.lt)⟩)
    have hgx : ({s with round := i.round, step := 1} : St).good := ⟨hs.locked, hs.valid, hs.block⟩
    have hsl1 := St.cells_len (s := {s with round := i.round, step := 1}) hgx
    have hbl1 : (bts ({s with round := i.round, step := 1} : St).valid).length = 32 := by rw [bts_len, hgx.valid]
    have hkl1 : (bts ({s with round := i.round, step := 1} : St).locked).length = 32 := by rw [bts_len, hgx.locked]
    refine wp_region_each_tail 5 (lstV [fun v _ => v = .agg (St.cells {s with round := i.round, step := 1}).toArray, fun v _ => v = .int .i64 i.round, fun v _ => v = .pointer (some ⟨gi, 36, none⟩), fun v _ => v = .agg (bts i.own).toArray, fun v W => ROutAt W N v (some ⟨1, i.round, i.own, (-1)⟩)]) (by kernel_rfl) (by kernel_rfl) (lstV_on (by repeat' (first | exact forall_nil | refine forall_cons ?_ ?_ | exact stays_rout _ _ | exact stays_tup _ _ _ | exact stays_eq _))) ?turns ?fin
    case turns =>
      refine ⟨fun a W pre => ?_, fun a W pre => ?_, fun a W pre => ?_, fun a W pre => ?_, fun a W pre => ?_, trivial⟩
      · refine .inl ?_
        have e2 : a.eval (.tmp 2) = .pointer (some ⟨gs, 0, none⟩) := pre.was 2 (by kernel_rfl) rfl
        have q2 := e2
        rw [Act.eval, Array.getD_eq_getD_getElem?] at q2
        exact does_val (want_none rfl) (run_load_seg 31 _ rfl gs 0 e2 (St.cells {s with round := i.round, step := 1}) (HW.out W pre.b).1.all 102 hsl1 _ Tryd.underlying31 rfl hi_rstate) rfl
      · refine .inl ?_
        have e6 : a.eval (.tmp 6) = .int .i64 i.round := pre.was 6 (by kernel_rfl) rfl
        have q6 := e6
        rw [Act.eval, Array.getD_eq_getD_getElem?] at q6
        exact does_val (want_none rfl) (by go_simp) rfl
      · refine .inl ?_
        have e3 : a.eval (.tmp 3) = .pointer (some ⟨gi, 0, none⟩) := pre.was 3 (by kernel_rfl) rfl
        have q3 := e3
        rw [Act.eval, Array.getD_eq_getD_getElem?] at q3
        exact does_val (want_none rfl) (by go_simp) rfl
      · refine .inl ?_
        have e70 : a.eval (.tmp 70) = .pointer (some ⟨gi, 36, none⟩) := pre.val 2 70 (by kernel_rfl) (by kernel_rfl)
        have q70 := e70
        rw [Act.eval, Array.getD_eq_getD_getElem?] at q70
        exact does_val (want_none rfl) (run_load_seg 23 _ rfl gi 36 e70 (bts i.own) ((in_out (HW.out W pre.b).2.1 hi).2.2.2.2.2) 32 hol _ hu_hash rfl hi_hash) rfl
      · refine .inl ?_
        have e69 : a.eval (.tmp 69) = .int .i64 i.round := pre.val 1 69 (by kernel_rfl) (by kernel_rfl)
        have q69 := e69
        rw [Act.eval, Array.getD_eq_getD_getElem?] at q69
        have e71 : a.eval (.tmp 71) = .agg (bts i.own).toArray := pre.val 3 71 (by kernel_rfl) (by kernel_rfl)
        have q71 := e71
        rw [Act.eval, Array.getD_eq_getD_getElem?] at q71
        refine does_call_ex (want_none rfl) (by go_simp) ((rone_any 1 (i.round) (-1) i.own hi.own W).mono fun e W' hx => ?_)
        obtain ⟨u, h1, h2, h3⟩ := hx
        exact ⟨u, h1, h2.less (hN ▸ pre.b.size), h3⟩
    case fin =>
      intro a W hb hsz2 hd hv ho
      have qs : a.eval (.tmp 68) = .agg (St.cells {s with round := i.round, step := 1}).toArray := hv 0 68 (by decide) (by kernel_rfl)
      have qo : ROutAt W N (a.eval (.tmp 72)) (some ⟨1, i.round, i.own, -1⟩) := hv 4 72 (by decide) (by kernel_rfl)
      have q4 : a.eval (.tmp 4) = .pointer (some ⟨gr, 0, none⟩) := ho 4 (no_dst (by kernel_rfl))
      have hs8 : 300 < a.tmps.size := by rw [hsz2]; first | (simp; done) | (show 300 < 301; decide)
      have hbk := (HW.out W hb).2.2
      have hBD : Below gs w w2.drew := HB2.out.trans (by (first | assumption | (repeat (first | exact Below.refl _ _ | assumption | apply Below.drew | apply below_drewN | (refine Below.setCell ?_ (by (try simp) <;> omega) _) | (refine Below.alloc ?_ (by (try simp) <;> omega) _)))))
      have hBl : Below gs w W := hBD.trans (hb.mono (hgs ▸ hBD.size))
      have HBL := Lib.hid hBl
      simp only [List.drop_succ_cons, List.drop_zero]
      have hsl2 := St.cells_len (s := {s with round := i.round, step := 1}) hgx
      refine wpList_puts (want_none rfl) 31 _ _ rfl gr 0 q4 (St.cells {s with round := i.round, step := 1}) qs 31 St.zero.cells hbk 102 hsl2 (by rw [St.cells_len St.zero_good]; omega) hi_rstate St.one_cells ?_
      intro w7 hb7 hm7 hz7
      rw [put_all (by rw [St.cells_len St.zero_good]; exact hsl2)] at hb7
      have HB7 := Lib.hid hb7
      have HM7 := Lib.hid hm7
      obtain ⟨vo, hvo⟩ : ∃ v, a.eval (.tmp 72) = v := ⟨_, rfl⟩
      rw [hvo] at qo
      have HO := Lib.hid qo
      have p4 := q4
      have po := hvo
      rw [Act.eval, Array.getD_eq_getD_getElem?] at p4 po
      clear hb7 hm7 qo qs hBl
      go_wp2_with fail
      have go_ : a.tmps[72]'(by omega) = vo := by rw [Array.getElem?_eq_getElem (by omega)] at po; simpa using po
      have HBB := HBL
      have hNg : gr < N := by rw [← hN]; have := hbk.lt; have := HR2.out.drew.lt; omega
      have h1 := Kh1.out
      have h2 := Kh2.out
      have h3 := Kh3.out
      have k1 := Kk1.out
      have hlt := Khlt.out
      have ho := Kho.out
      have hv := Khv.out
      refine bodyPost_ret (rstep_results (s := {s with round := i.round, step := 1}) (hgx) HB7.out ((set_getD_far (by decide)).trans q4) ((set_getD_same (by omega)).trans go_)) rfl ?_
      exact rstep_end (N := N) HO.out (by omega) (by omega) HM7.out (by rw [hgs]; exact HBB.out) (by first | (simp [stepF, nowF, lockF, lateF, prevF, precF, agreedF, beginOut, h1, h2, h3, k1, hlt, ho, Int.not_le.2 hv]; done) | (simp [stepF, nowF, lockF, lateF, prevF, precF, agreedF, beginOut, h1, h2, h3, k1, hlt, ho, Int.not_le.2 hv]; omega) | (simp [stepF, nowF, lockF, lateF, prevF, precF, agreedF, beginOut, h1, h2, h3, k1, hlt, ho, Int.not_le.2 hv]; intros; omega))
  | false =>
    obtain ⟨c0, c1, c2, c34, c35, c67, c68, c100, c101⟩ := st_out HS0.out hs
    obtain ⟨d0, d1, d2, d34, d35, d36⟩ := in_out HI0.out hi
    rw [hg] at d35
    have h1 := Kh1.out
    have h2 := Kh2.out
    have h3 := Kh3.out
    have k1 := Kk1.out
    have hlt := Khlt.out
    have ho := Kho.out
    have hv := Khv.out
    have el : decide (i.round < 0) = false := by simpa using h1
    have em : decide (1048576 < i.round) = false := by simpa using h2
    have e4 : (s.step == 4) = false := by simpa using h3
    have en1 : (i.kind == 1) = true := by simp [k1]
    have en2 : (i.kind == 2) = false := by simp [k1]
    have en3 : (i.kind == 3) = false := by simp [k1]
    have en4 : (i.kind == 4) = false := by simp [k1]
    have en5 : (i.kind == 5) = false := by simp [k1]
    have en6 : (i.kind == 6) = false := by simp [k1]
    have en7 : (i.kind == 7) = false := by simp [k1]
    have en8 : (i.kind == 8) = false := by simp [k1]
    have en9 : (i.kind == 9) = false := by simp [k1]
    have en10 : (i.kind == 10) = false := by simp [k1]
    have en11 : (i.kind == 11) = false := by simp [k1]
    have en12 : (i.kind == 12) = false := by simp [k1]
    have elt : decide (i.round ≤ s.round) = false := by simp; omega
    have eo : (i.own == zeros) = false := by simpa using ho
    have f1 : decide (0 ≤ s.vr) = false := by simpa using hv
    clear h1 h2 h3 k1 hlt ho hv
    have hfz := HS0.out.frozen 0
    go_upto_region 13 with (first | (refine wpList_val (by rfl) (run_load_seg 23 _ (by with_reducible rfl) _ _ (by rfl) _ (by assumption) 32 (by assumption) _ hu_hash (by rfl) hi_hash) ?_))
    obtain ⟨w1, hw1⟩ : ∃ x, w0.setCell ⟨gs, 0, none⟩ (.int .i64 i.round) = x := ⟨_, rfl⟩
    have HS1 : Hid (Bk w1 gs 31 (St.cells {s with round := i.round}).toArray) := Lib.hid (hw1 ▸ set_round HS0.out i.round)
    have HI1 : Hid (Bk w1 gi 36 i.cells.toArray) := Lib.hid (hw1 ▸ HI0.out.far (p := ⟨gs, 0, none⟩) (by show gi ≠ gs; omega) (.int .i64 i.round))
    have HR1 : Hid (Bk w1 gr 31 St.zero.cells.toArray) := Lib.hid (hw1 ▸ HR0.out.far (p := ⟨gs, 0, none⟩) (by show gr ≠ gs; omega) (.int .i64 i.round))
    have HB1 : Hid (Below gs w w1) := Lib.hid (hw1 ▸ HB0.out.setCell (by show gs ≤ gs; omega) _)
    rw [hw1]
    clear hw1 hfz
    clear c0 c1 c2 c34 c35 c67 c68 c100 c101 d0 d1 d2 d34 d35 d36
    obtain ⟨c0, c1, c2, c34, c35, c67, c68, c100, c101⟩ := st_out HS1.out (⟨hs.locked, hs.valid, hs.block⟩)
    obtain ⟨d0, d1, d2, d34, d35, d36⟩ := in_out HI1.out hi
    try dsimp only at c0 c1 c2 c34 c35 c67 c68 c100 c101
    have hfz := HS1.out.frozen 1
    go_upto_region 14 with (first | (refine wpList_val (by rfl) (run_load_seg 23 _ (by with_reducible rfl) _ _ (by rfl) _ (by assumption) 32 (by assumption) _ hu_hash (by rfl) hi_hash) ?_))
    obtain ⟨w2, hw2⟩ : ∃ x, w1.setCell ⟨gs, 1, none⟩ (.int .i64 1) = x := ⟨_, rfl⟩
    have HS2 : Hid (Bk w2 gs 31 (St.cells {s with round := i.round, step := 1}).toArray) := Lib.hid (hw2 ▸ set_step HS1.out 1)
    have HI2 : Hid (Bk w2 gi 36 i.cells.toArray) := Lib.hid (hw2 ▸ HI1.out.far (p := ⟨gs, 1, none⟩) (by show gi ≠ gs; omega) (.int .i64 1))
    have HR2 : Hid (Bk w2 gr 31 St.zero.cells.toArray) := Lib.hid (hw2 ▸ HR1.out.far (p := ⟨gs, 1, none⟩) (by show gr ≠ gs; omega) (.int .i64 1))
    have HB2 : Hid (Below gs w w2) := Lib.hid (hw2 ▸ HB1.out.setCell (by show gs ≤ gs; omega) _)
    rw [hw2]
    clear hw2 hfz
    clear c0 c1 c2 c34 c35 c67 c68 c100 c101 d0 d1 d2 d34 d35 d36
    obtain ⟨c0, c1, c2, c34, c35, c67, c68, c100, c101⟩ := st_out HS2.out (⟨hs.locked, hs.valid, hs.block⟩)
    obtain ⟨d0, d1, d2, d34, d35, d36⟩ := in_out HI2.out hi
    try dsimp only at c0 c1 c2 c34 c35 c67 c68 c100 c101
    go_upto_region 18 with (first | (refine wpList_val (by rfl) (run_load_seg 23 _ (by with_reducible rfl) _ _ (by rfl) _ (by assumption) 32 (by assumption) _ hu_hash (by rfl) hi_hash) ?_))
    clear c0 c1 c2 c34 c35 c67 c68 c100 c101 d0 d1 d2 d34 d35 d36
    obtain ⟨N, hN⟩ : ∃ N, w2.drew.heap.size = N := ⟨_, rfl⟩
    have HW : Hid (∀ W, Below w2.drew.heap.size w2.drew W → Bk W gs 31 (St.cells {s with round := i.round, step := 1}).toArray ∧ Bk W gi 36 i.cells.toArray ∧ Bk W gr 31 St.zero.cells.toArray) := Lib.hid (fun W h => ⟨HS2.out.drew.below h (HS2.out.drew.lt), HI2.out.drew.below h (HI2.out.drew.lt), HR2.out.drew.below h (HR2.out.drew.lt)⟩)
    have hgx : ({s with round := i.round, step := 1} : St).good := ⟨hs.locked, hs.valid, hs.block⟩
    have hsl1 := St.cells_len (s := {s with round := i.round, step := 1}) hgx
    have hbl1 : (bts ({s with round := i.round, step := 1} : St).valid).length = 32 := by rw [bts_len, hgx.valid]
    have hkl1 : (bts ({s with round := i.round, step := 1} : St).locked).length = 32 := by rw [bts_len, hgx.locked]
    refine wp_region_each_tail 5 (lstV [fun v _ => v = .agg (St.cells {s with round := i.round, step := 1}).toArray, fun v _ => v = .int .i64 i.round, fun v _ => v = .pointer (some ⟨gi, 36, none⟩), fun v _ => v = .agg (bts i.own).toArray, fun v W => ROutAt W N v (some ⟨1, i.round, i.own, (-1)⟩)]) (by kernel_rfl) (by kernel_rfl) (lstV_on (by repeat' (first | exact forall_nil | refine forall_cons ?_ ?_ | exact stays_rout _ _ | exact stays_tup _ _ _ | exact stays_eq _))) ?turns ?fin
    case turns =>
      refine ⟨fun a W pre => ?_, fun a W pre => ?_, fun a W pre => ?_, fun a W pre => ?_, fun a W pre => ?_, trivial⟩
      · refine .inl ?_
        have e2 : a.eval (.tmp 2) = .pointer (some ⟨gs, 0, none⟩) := pre.was 2 (by kernel_rfl) rfl
        have q2 := e2
        rw [Act.eval, Array.getD_eq_getD_getElem?] at q2
        exact does_val (want_none rfl) (run_load_seg 31 _ rfl gs 0 e2 (St.cells {s with round := i.round, step := 1}) (HW.out W pre.b).1.all 102 hsl1 _ Tryd.underlying31 rfl hi_rstate) rfl
      · refine .inl ?_
        have e6 : a.eval (.tmp 6) = .int .i64 i.round := pre.was 6 (by kernel_rfl) rfl
        have q6 := e6
        rw [Act.eval, Array.getD_eq_getD_getElem?] at q6
        exact does_val (want_none rfl) (by go_simp) rfl
      · refine .inl ?_
        have e3 : a.eval (.tmp 3) = .pointer (some ⟨gi, 0, none⟩) := pre.was 3 (by kernel_rfl) rfl
        have q3 := e3
        rw [Act.eval, Array.getD_eq_getD_getElem?] at q3
        exact does_val (want_none rfl) (by go_simp) rfl
      · refine .inl ?_
        have e70 : a.eval (.tmp 70) = .pointer (some ⟨gi, 36, none⟩) := pre.val 2 70 (by kernel_rfl) (by kernel_rfl)
        have q70 := e70
        rw [Act.eval, Array.getD_eq_getD_getElem?] at q70
        exact does_val (want_none rfl) (run_load_seg 23 _ rfl gi 36 e70 (bts i.own) ((in_out (HW.out W pre.b).2.1 hi).2.2.2.2.2) 32 hol _ hu_hash rfl hi_hash) rfl
      · refine .inl ?_
        have e69 : a.eval (.tmp 69) = .int .i64 i.round := pre.val 1 69 (by kernel_rfl) (by kernel_rfl)
        have q69 := e69
        rw [Act.eval, Array.getD_eq_getD_getElem?] at q69
        have e71 : a.eval (.tmp 71) = .agg (bts i.own).toArray := pre.val 3 71 (by kernel_rfl) (by kernel_rfl)
        have q71 := e71
        rw [Act.eval, Array.getD_eq_getD_getElem?] at q71
        refine does_call_ex (want_none rfl) (by go_simp) ((rone_any 1 (i.round) (-1) i.own hi.own W).mono fun e W' hx => ?_)
        obtain ⟨u, h1, h2, h3⟩ := hx
        exact ⟨u, h1, h2.less (hN ▸ pre.b.size), h3⟩
    case fin =>
      intro a W hb hsz2 hd hv ho
      have qs : a.eval (.tmp 68) = .agg (St.cells {s with round := i.round, step := 1}).toArray := hv 0 68 (by decide) (by kernel_rfl)
      have qo : ROutAt W N (a.eval (.tmp 72)) (some ⟨1, i.round, i.own, -1⟩) := hv 4 72 (by decide) (by kernel_rfl)
      have q4 : a.eval (.tmp 4) = .pointer (some ⟨gr, 0, none⟩) := ho 4 (no_dst (by kernel_rfl))
      have hs8 : 300 < a.tmps.size := by rw [hsz2]; first | (simp; done) | (show 300 < 301; decide)
      have hbk := (HW.out W hb).2.2
      have hBD : Below gs w w2.drew := HB2.out.trans (by (first | assumption | (repeat (first | exact Below.refl _ _ | assumption | apply Below.drew | apply below_drewN | (refine Below.setCell ?_ (by (try simp) <;> omega) _) | (refine Below.alloc ?_ (by (try simp) <;> omega) _)))))
      have hBl : Below gs w W := hBD.trans (hb.mono (hgs ▸ hBD.size))
      have HBL := Lib.hid hBl
      simp only [List.drop_succ_cons, List.drop_zero]
      have hsl2 := St.cells_len (s := {s with round := i.round, step := 1}) hgx
      refine wpList_puts (want_none rfl) 31 _ _ rfl gr 0 q4 (St.cells {s with round := i.round, step := 1}) qs 31 St.zero.cells hbk 102 hsl2 (by rw [St.cells_len St.zero_good]; omega) hi_rstate St.one_cells ?_
      intro w7 hb7 hm7 hz7
      rw [put_all (by rw [St.cells_len St.zero_good]; exact hsl2)] at hb7
      have HB7 := Lib.hid hb7
      have HM7 := Lib.hid hm7
      obtain ⟨vo, hvo⟩ : ∃ v, a.eval (.tmp 72) = v := ⟨_, rfl⟩
      rw [hvo] at qo
      have HO := Lib.hid qo
      have p4 := q4
      have po := hvo
      rw [Act.eval, Array.getD_eq_getD_getElem?] at p4 po
      clear hb7 hm7 qo qs hBl
      go_wp2_with fail
      have go_ : a.tmps[72]'(by omega) = vo := by rw [Array.getElem?_eq_getElem (by omega)] at po; simpa using po
      have HBB := HBL
      have hNg : gr < N := by rw [← hN]; have := hbk.lt; have := HR2.out.drew.lt; omega
      have h1 := Kh1.out
      have h2 := Kh2.out
      have h3 := Kh3.out
      have k1 := Kk1.out
      have hlt := Khlt.out
      have ho := Kho.out
      have hv := Khv.out
      refine bodyPost_ret (rstep_results (s := {s with round := i.round, step := 1}) (hgx) HB7.out ((set_getD_far (by decide)).trans q4) ((set_getD_same (by omega)).trans go_)) rfl ?_
      exact rstep_end (N := N) HO.out (by omega) (by omega) HM7.out (by rw [hgs]; exact HBB.out) (by first | (simp [stepF, nowF, lockF, lateF, prevF, precF, agreedF, beginOut, h1, h2, h3, k1, hlt, ho, Int.not_le.2 hv]; done) | (simp [stepF, nowF, lockF, lateF, prevF, precF, agreedF, beginOut, h1, h2, h3, k1, hlt, ho, Int.not_le.2 hv]; omega) | (simp [stepF, nowF, lockF, lateF, prevF, precF, agreedF, beginOut, h1, h2, h3, k1, hlt, ho, Int.not_le.2 hv]; intros; omega))
end Go.Proofs.YtlhnhdkbfkbafaaDoor

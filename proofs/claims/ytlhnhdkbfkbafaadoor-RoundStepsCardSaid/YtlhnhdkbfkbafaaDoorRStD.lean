/- What this text proves: parts of the contract of the reference's step of a height. The conditions are that hashes have 32 bytes. -/
import Derived.Test.YtlhnhdkbfkbafaaDoorRefBase
namespace Go.Proofs.YtlhnhdkbfkbafaaDoor
open Go.RowKit
set_option linter.unusedVariables false
set_option linter.unusedSimpArgs false

set_option maxRecDepth 100000 in
set_option maxHeartbeats 4000000 in
theorem rstepL_l12 (s : St) (i : In) (w : World) (hs : s.good) (hi : i.fits) (h1 : ¬ i.round < 0) (h2 : ¬ 1048576 < i.round) (h3 : ¬ s.step = 4) (k12 : i.kind = 12) (hr : i.round = s.round) (g0 : 1 ≤ s.step) (g1 : s.step ≤ 3) (g2 : i.round < 1048576) :
    Calls Tryd.prog 11 #[.agg s.cells.toArray, .agg i.cells.toArray] w (RTold w (stepF s i)) := by
  have Kh1 := Lib.hid h1
  have Kh2 := Lib.hid h2
  have Kh3 := Lib.hid h3
  have Kk12 := Lib.hid k12
  have Khr := Lib.hid hr
  have Kg0 := Lib.hid g0
  have Kg1 := Lib.hid g1
  have Kg2 := Lib.hid g2
  clear h1 h2 h3 k12 hr g0 g1 g2
  have hzs := zero_rstate
  have hz := zeros_len
  have hzl : (bts zeros).length = 32 := by rw [bts_len, zeros_len]
  have hbl : (bts i.block).length = 32 := by rw [bts_len, hi.block]
  have hol : (bts i.own).length = 32 := by rw [bts_len, hi.own]
  have hll : (bts s.locked).length = 32 := by rw [bts_len, hs.locked]
  have hvl : (bts s.valid).length = 32 := by rw [bts_len, hs.valid]
  have hib := hi.block
  have hio := hi.own
  have hsk := hs.locked
  have hcl := In.cells_len hi
  have hsl := St.cells_len hs
  go_enter Tryd.func11, Tryd.ntmps11
  go_upto_region 1 with fail
  have HS0 := Lib.hid (show Bk (((w.alloc (.cells s.cells.toArray 31)).alloc (.cells i.cells.toArray 36)).alloc (.cells St.zero.cells.toArray 31)) w.heap.size 31 s.cells.toArray from ((Bk.new w 31 s.cells.toArray).alloc _).alloc _)
  have HI0 := Lib.hid (show Bk (((w.alloc (.cells s.cells.toArray 31)).alloc (.cells i.cells.toArray 36)).alloc (.cells St.zero.cells.toArray 31)) (w.heap.size + 1) 36 i.cells.toArray from by have := (Bk.new (w.alloc (.cells s.cells.toArray 31)) 36 i.cells.toArray).alloc (.cells St.zero.cells.toArray 31); simpa using this)
  have HR0 := Lib.hid (show Bk (((w.alloc (.cells s.cells.toArray 31)).alloc (.cells i.cells.toArray 36)).alloc (.cells St.zero.cells.toArray 31)) (w.heap.size + 1 + 1) 31 St.zero.cells.toArray from by have := Bk.new ((w.alloc (.cells s.cells.toArray 31)).alloc (.cells i.cells.toArray 36)) 31 St.zero.cells.toArray; simpa using this)
  have HB0 := Lib.hid (show Below w.heap.size w (((w.alloc (.cells s.cells.toArray 31)).alloc (.cells i.cells.toArray 36)).alloc (.cells St.zero.cells.toArray 31)) from (by (first | assumption | (repeat (first | exact Below.refl _ _ | assumption | apply Below.drew | apply below_drewN | (refine Below.setCell ?_ (by (try simp) <;> omega) _) | (refine Below.alloc ?_ (by (try simp) <;> omega) _))))))
  obtain ⟨v0, hv0⟩ : ∃ v0, ((w.alloc (.cells s.cells.toArray 31)).alloc (.cells i.cells.toArray 36)).alloc (.cells St.zero.cells.toArray 31) = v0 := ⟨_, rfl⟩
  have hsz : v0.heap.size = w.heap.size + 1 + 1 + 1 := by rw [← hv0]; simp
  obtain ⟨gs, hgs⟩ : ∃ gs, w.heap.size = gs := ⟨_, rfl⟩
  rw [hv0] at HS0 HI0 HR0 HB0 ⊢
  rw [hgs] at HS0 HI0 HR0 HB0 hsz ⊢
  obtain ⟨gi, hgi⟩ : ∃ gi, gs + 1 = gi := ⟨_, rfl⟩
  rw [hgi] at HI0 HR0 hsz ⊢
  obtain ⟨gr, hgr⟩ : ∃ gr, gi + 1 = gr := ⟨_, rfl⟩
  rw [hgr] at HR0 hsz ⊢
  clear hv0 hzs
  obtain ⟨d0, d1, d2, d34, d35, d36⟩ := in_out HI0.out hi
  go_wp2_with (refine wpList_val (by rfl) (run_load_seg 23 _ (by with_reducible rfl) _ _ (by rfl) _ (by assumption) 32 (by assumption) _ hu_hash (by rfl) hi_hash) ?_)
  with_reducible refine (rempty_any i.block hi.block _).mono ?_
  rintro e v1 ⟨rfl, hb1⟩
  have HS1 := Lib.hid (HS0.out.below hb1 HS0.out.lt)
  have HI1 := Lib.hid (HI0.out.below hb1 HI0.out.lt)
  have HR1 := Lib.hid (HR0.out.below hb1 HR0.out.lt)
  have HB1 := Lib.hid (HB0.out.trans (hb1.mono (by omega)))
  have hz1 := hb1.size
  clear hb1 HS0 HI0 HR0 HB0 d0 d1 d2 d34 d35 d36
  obtain ⟨d0, d1, d2, d34, d35, d36⟩ := in_out HI1.out hi
  go_wp2_with (refine wpList_val (by rfl) (run_load_seg 23 _ (by with_reducible rfl) _ _ (by rfl) _ (by assumption) 32 (by assumption) _ hu_hash (by rfl) hi_hash) ?_)
  with_reducible refine (rempty_any i.own hi.own _).mono ?_
  rintro e w0 ⟨rfl, hb1⟩
  have HS0 := Lib.hid (HS1.out.below hb1 HS1.out.lt)
  have HI0 := Lib.hid (HI1.out.below hb1 HI1.out.lt)
  have HR0 := Lib.hid (HR1.out.below hb1 HR1.out.lt)
  have HB0 : Hid (Below gs w w0) := Lib.hid (HB1.out.trans (hb1.mono (by omega)))
  have hz0 : v0.heap.size ≤ w0.heap.size := Nat.le_trans hz1 hb1.size
  clear hb1 HS1 HI1 HR1 HB1 d0 d1 d2 d34 d35 d36 hz1
  cases hg : i.good with
  | true =>
    obtain ⟨c0, c1, c2, c34, c35, c67, c68, c100, c101⟩ := st_out HS0.out hs
    obtain ⟨d0, d1, d2, d34, d35, d36⟩ := in_out HI0.out hi
    rw [hg] at d35
    have h1 := Kh1.out
    have h2 := Kh2.out
    have h3 := Kh3.out
    have k12 := Kk12.out
    have hr := Khr.out
    have g0 := Kg0.out
    have g1 := Kg1.out
    have g2 := Kg2.out
    have el : decide (i.round < 0) = false := by simpa using h1
    have em : decide (1048576 < i.round) = false := by simpa using h2
    have e4 : (s.step == 4) = false := by simpa using h3
    have en1 : (i.kind == 1) = false := by simp [k12]
    have en2 : (i.kind == 2) = false := by simp [k12]
    have en3 : (i.kind == 3) = false := by simp [k12]
    have en4 : (i.kind == 4) = false := by simp [k12]
    have en5 : (i.kind == 5) = false := by simp [k12]
    have en6 : (i.kind == 6) = false := by simp [k12]
    have en7 : (i.kind == 7) = false := by simp [k12]
    have en8 : (i.kind == 8) = false := by simp [k12]
    have en9 : (i.kind == 9) = false := by simp [k12]
    have en10 : (i.kind == 10) = false := by simp [k12]
    have en11 : (i.kind == 11) = false := by simp [k12]
    have en12 : (i.kind == 12) = true := by simp [k12]
    have er : (i.round == s.round) = true := by simp [hr]
    have f0 : decide (1 ≤ s.step) = true := by simpa using g0
    have f1 : decide (s.step ≤ 3) = true := by simpa using g1
    have f2 : decide (i.round < 1048576) = true := by simpa using g2
    have hb1 : (0 : Int) ≤ i.round := by omega
    have hwr : IntKind.i64.wrap (i.round + 1) = i.round + 1 := IntWalk.i64_in _ (by omega)
    clear h1 h2 h3 k12 hr g0 g1 g2
    go_upto_region 60 with (first | (refine wpList_val (by rfl) (run_load_seg 23 _ (by with_reducible rfl) _ _ (by rfl) _ (by assumption) 32 (by assumption) _ hu_hash (by rfl) hi_hash) ?_))
    clear c0 c1 c2 c34 c35 c67 c68 c100 c101 d0 d1 d2 d34 d35 d36
    obtain ⟨N, hN⟩ : ∃ N, w0.drew.heap.size = N := ⟨_, rfl⟩
    have HW : Hid (∀ W, Below w0.drew.heap.size w0.drew W → Bk W gs 31 (St.cells s).toArray ∧ Bk W gi 36 i.cells.toArray ∧ Bk W gr 31 St.zero.cells.toArray) := Lib.hid (fun W h => ⟨HS0.out.drew.below h (HS0.out.drew.lt), HI0.out.drew.below h (HI0.out.drew.lt), HR0.out.drew.below h (HR0.out.drew.lt)⟩)
    have hgx : (s : St).good := hs
    have hsl1 := St.cells_len (s := s) hgx
    have hbl1 : (bts (s : St).valid).length = 32 := by rw [bts_len, hgx.valid]
    have hkl1 : (bts (s : St).locked).length = 32 := by rw [bts_len, hgx.locked]
    refine wp_region_each_tail 5 (lstV [fun v _ => v = .agg (St.cells s).toArray, fun v _ => v = .int .i64 i.round, fun v _ => v = .int .i64 (i.round + 1), fun v _ => v = .agg (bts zeros).toArray, fun v W => ROutAt W N v (some ⟨7, i.round + 1, zeros, 0⟩)]) (by kernel_rfl) (by kernel_rfl) (lstV_on (by repeat' (first | exact forall_nil | refine forall_cons ?_ ?_ | exact stays_rout _ _ | exact stays_tup _ _ _ | exact stays_eq _))) ?turns ?fin
    case turns =>
      refine ⟨fun a W pre => ?_, fun a W pre => ?_, fun a W pre => ?_, fun a W pre => ?_, fun a W pre => ?_, trivial⟩
      · refine .inl ?_
        have e2 : a.eval (.tmp 2) = .pointer (some ⟨gs, 0, none⟩) := pre.was 2 (by kernel_rfl) rfl
        have q2 := e2
        rw [Act.eval, Array.getD_eq_getD_getElem?] at q2
        exact does_val (want_none rfl) (run_load_seg 31 _ rfl gs 0 e2 (St.cells s) (HW.out W pre.b).1.all 102 hsl1 _ Tryd.underlying31 rfl hi_rstate) rfl
      · refine .inl ?_
        have e6 : a.eval (.tmp 6) = .int .i64 i.round := pre.was 6 (by kernel_rfl) rfl
        have q6 := e6
        rw [Act.eval, Array.getD_eq_getD_getElem?] at q6
        exact does_val (want_none rfl) (by go_simp) rfl
      · refine .inl ?_
        have e296 : a.eval (.tmp 296) = .int .i64 i.round := pre.val 1 296 (by kernel_rfl) (by kernel_rfl)
        have q296 := e296
        rw [Act.eval, Array.getD_eq_getD_getElem?] at q296
        exact does_val (want_none rfl) (by go_simp) rfl
      · refine .inl ?_
        exact does_val (want_none rfl) (run_build_at 23 _ rfl (bts zeros) (by exact made_noneR)) rfl
      · refine .inl ?_
        have e297 : a.eval (.tmp 297) = .int .i64 (i.round + 1) := pre.val 2 297 (by kernel_rfl) (by kernel_rfl)
        have q297 := e297
        rw [Act.eval, Array.getD_eq_getD_getElem?] at q297
        have e298 : a.eval (.tmp 298) = .agg (bts zeros).toArray := pre.val 3 298 (by kernel_rfl) (by kernel_rfl)
        have q298 := e298
        rw [Act.eval, Array.getD_eq_getD_getElem?] at q298
        refine does_call_ex (want_none rfl) (by go_simp) ((rone_any 7 (i.round + 1) 0 zeros zeros_len W).mono fun e W' hx => ?_)
        obtain ⟨u, h1, h2, h3⟩ := hx
        exact ⟨u, h1, h2.less (hN ▸ pre.b.size), h3⟩
    case fin =>
      intro a W hb hsz2 hd hv ho
      have qs : a.eval (.tmp 295) = .agg (St.cells s).toArray := hv 0 295 (by decide) (by kernel_rfl)
      have qo : ROutAt W N (a.eval (.tmp 299)) (some ⟨7, i.round + 1, zeros, 0⟩) := hv 4 299 (by decide) (by kernel_rfl)
      have q4 : a.eval (.tmp 4) = .pointer (some ⟨gr, 0, none⟩) := ho 4 (no_dst (by kernel_rfl))
      have hs8 : 300 < a.tmps.size := by rw [hsz2]; first | (simp; done) | (show 300 < 301; decide)
      have hbk := (HW.out W hb).2.2
      have hBD : Below gs w w0.drew := HB0.out.trans (by (first | assumption | (repeat (first | exact Below.refl _ _ | assumption | apply Below.drew | apply below_drewN | (refine Below.setCell ?_ (by (try simp) <;> omega) _) | (refine Below.alloc ?_ (by (try simp) <;> omega) _)))))
      have hBl : Below gs w W := hBD.trans (hb.mono (hgs ▸ hBD.size))
      have HBL := Lib.hid hBl
      simp only [List.drop_succ_cons, List.drop_zero]
      have hsl2 := St.cells_len (s := s) hgx
      refine wpList_puts (want_none rfl) 31 _ _ rfl gr 0 q4 (St.cells s) qs 31 St.zero.cells hbk 102 hsl2 (by rw [St.cells_len St.zero_good]; omega) hi_rstate St.one_cells ?_
      intro w7 hb7 hm7 hz7
      rw [put_all (by rw [St.cells_len St.zero_good]; exact hsl2)] at hb7
      have HB7 := Lib.hid hb7
      have HM7 := Lib.hid hm7
      obtain ⟨vo, hvo⟩ : ∃ v, a.eval (.tmp 299) = v := ⟨_, rfl⟩
      rw [hvo] at qo
      have HO := Lib.hid qo
      have p4 := q4
      have po := hvo
      rw [Act.eval, Array.getD_eq_getD_getElem?] at p4 po
      clear hb7 hm7 qo qs hBl
      go_wp2_with fail
      have go_ : a.tmps[299]'(by omega) = vo := by rw [Array.getElem?_eq_getElem (by omega)] at po; simpa using po
      have HBB := HBL
      have hNg : gr < N := by rw [← hN]; have := hbk.lt; have := HR0.out.drew.lt; omega
      have h1 := Kh1.out
      have h2 := Kh2.out
      have h3 := Kh3.out
      have k12 := Kk12.out
      have hr := Khr.out
      have g0 := Kg0.out
      have g1 := Kg1.out
      have g2 := Kg2.out
      refine bodyPost_ret (rstep_results (s := s) (hgx) HB7.out ((set_getD_far (by decide)).trans q4) ((set_getD_same (by omega)).trans go_)) rfl ?_
      exact rstep_end (N := N) HO.out (by omega) (by omega) HM7.out (by rw [hgs]; exact HBB.out) (by first | (simp [stepF, nowF, lockF, lateF, prevF, precF, agreedF, beginOut, h1, h2, h3, k12, hr, Int.not_lt.2 g0, Int.not_lt.2 g1, show s.round < 1048576 from hr ▸ g2]; done) | (simp [stepF, nowF, lockF, lateF, prevF, precF, agreedF, beginOut, h1, h2, h3, k12, hr, Int.not_lt.2 g0, Int.not_lt.2 g1, show s.round < 1048576 from hr ▸ g2]; omega) | (simp [stepF, nowF, lockF, lateF, prevF, precF, agreedF, beginOut, h1, h2, h3, k12, hr, Int.not_lt.2 g0, Int.not_lt.2 g1, show s.round < 1048576 from hr ▸ g2]; intros; omega))
  | false =>
    obtain ⟨c0, c1, c2, c34, c35, c67, c68, c100, c101⟩ := st_out HS0.out hs
    obtain ⟨d0, d1, d2, d34, d35, d36⟩ := in_out HI0.out hi
    rw [hg] at d35
    have h1 := Kh1.out
    have h2 := Kh2.out
    have h3 := Kh3.out
    have k12 := Kk12.out
    have hr := Khr.out
    have g0 := Kg0.out
    have g1 := Kg1.out
    have g2 := Kg2.out
    have el : decide (i.round < 0) = false := by simpa using h1
    have em : decide (1048576 < i.round) = false := by simpa using h2
    have e4 : (s.step == 4) = false := by simpa using h3
    have en1 : (i.kind == 1) = false := by simp [k12]
    have en2 : (i.kind == 2) = false := by simp [k12]
    have en3 : (i.kind == 3) = false := by simp [k12]
    have en4 : (i.kind == 4) = false := by simp [k12]
    have en5 : (i.kind == 5) = false := by simp [k12]
    have en6 : (i.kind == 6) = false := by simp [k12]
    have en7 : (i.kind == 7) = false := by simp [k12]
    have en8 : (i.kind == 8) = false := by simp [k12]
    have en9 : (i.kind == 9) = false := by simp [k12]
    have en10 : (i.kind == 10) = false := by simp [k12]
    have en11 : (i.kind == 11) = false := by simp [k12]
    have en12 : (i.kind == 12) = true := by simp [k12]
    have er : (i.round == s.round) = true := by simp [hr]
    have f0 : decide (1 ≤ s.step) = true := by simpa using g0
    have f1 : decide (s.step ≤ 3) = true := by simpa using g1
    have f2 : decide (i.round < 1048576) = true := by simpa using g2
    have hb1 : (0 : Int) ≤ i.round := by omega
    have hwr : IntKind.i64.wrap (i.round + 1) = i.round + 1 := IntWalk.i64_in _ (by omega)
    clear h1 h2 h3 k12 hr g0 g1 g2
    go_upto_region 60 with (first | (refine wpList_val (by rfl) (run_load_seg 23 _ (by with_reducible rfl) _ _ (by rfl) _ (by assumption) 32 (by assumption) _ hu_hash (by rfl) hi_hash) ?_))
    clear c0 c1 c2 c34 c35 c67 c68 c100 c101 d0 d1 d2 d34 d35 d36
    obtain ⟨N, hN⟩ : ∃ N, w0.drew.heap.size = N := ⟨_, rfl⟩
    have HW : Hid (∀ W, Below w0.drew.heap.size w0.drew W → Bk W gs 31 (St.cells s).toArray ∧ Bk W gi 36 i.cells.toArray ∧ Bk W gr 31 St.zero.cells.toArray) := Lib.hid (fun W h => ⟨HS0.out.drew.below h (HS0.out.drew.lt), HI0.out.drew.below h (HI0.out.drew.lt), HR0.out.drew.below h (HR0.out.drew.lt)⟩)
    have hgx : (s : St).good := hs
    have hsl1 := St.cells_len (s := s) hgx
    have hbl1 : (bts (s : St).valid).length = 32 := by rw [bts_len, hgx.valid]
    have hkl1 : (bts (s : St).locked).length = 32 := by rw [bts_len, hgx.locked]
    refine wp_region_each_tail 5 (lstV [fun v _ => v = .agg (St.cells s).toArray, fun v _ => v = .int .i64 i.round, fun v _ => v = .int .i64 (i.round + 1), fun v _ => v = .agg (bts zeros).toArray, fun v W => ROutAt W N v (some ⟨7, i.round + 1, zeros, 0⟩)]) (by kernel_rfl) (by kernel_rfl) (lstV_on (by repeat' (first | exact forall_nil | refine forall_cons ?_ ?_ | exact stays_rout _ _ | exact stays_tup _ _ _ | exact stays_eq _))) ?turns ?fin
    case turns =>
      refine ⟨fun a W pre => ?_, fun a W pre => ?_, fun a W pre => ?_, fun a W pre => ?_, fun a W pre => ?_, trivial⟩
      · refine .inl ?_
        have e2 : a.eval (.tmp 2) = .pointer (some ⟨gs, 0, none⟩) := pre.was 2 (by kernel_rfl) rfl
        have q2 := e2
        rw [Act.eval, Array.getD_eq_getD_getElem?] at q2
        exact does_val (want_none rfl) (run_load_seg 31 _ rfl gs 0 e2 (St.cells s) (HW.out W pre.b).1.all 102 hsl1 _ Tryd.underlying31 rfl hi_rstate) rfl
      · refine .inl ?_
        have e6 : a.eval (.tmp 6) = .int .i64 i.round := pre.was 6 (by kernel_rfl) rfl
        have q6 := e6
        rw [Act.eval, Array.getD_eq_getD_getElem?] at q6
        exact does_val (want_none rfl) (by go_simp) rfl
      · refine .inl ?_
        have e296 : a.eval (.tmp 296) = .int .i64 i.round := pre.val 1 296 (by kernel_rfl) (by kernel_rfl)
        have q296 := e296
        rw [Act.eval, Array.getD_eq_getD_getElem?] at q296
        exact does_val (want_none rfl) (by go_simp) rfl
      · refine .inl ?_
        exact does_val (want_none rfl) (run_build_at 23 _ rfl (bts zeros) (by exact made_noneR)) rfl
      · refine .inl ?_
        have e297 : a.eval (.tmp 297) = .int .i64 (i.round + 1) := pre.val 2 297 (by kernel_rfl) (by kernel_rfl)
        have q297 := e297
        rw [Act.eval, Array.getD_eq_getD_getElem?] at q297
        have e298 : a.eval (.tmp 298) = .agg (bts zeros).toArray := pre.val 3 298 (by kernel_rfl) (by kernel_rfl)
        have q298 := e298
        rw [Act.eval, Array.getD_eq_getD_getElem?] at q298
        refine does_call_ex (want_none rfl) (by go_simp) ((rone_any 7 (i.round + 1) 0 zeros zeros_len W).mono fun e W' hx => ?_)
        obtain ⟨u, h1, h2, h3⟩ := hx
        exact ⟨u, h1, h2.less (hN ▸ pre.b.size), h3⟩
    case fin =>
      intro a W hb hsz2 hd hv ho
      have qs : a.eval (.tmp 295) = .agg (St.cells s).toArray := hv 0 295 (by decide) (by kernel_rfl)
      have qo : ROutAt W N (a.eval (.tmp 299)) (some ⟨7, i.round + 1, zeros, 0⟩) := hv 4 299 (by decide) (by kernel_rfl)
      have q4 : a.eval (.tmp 4) = .pointer (some ⟨gr, 0, none⟩) := ho 4 (no_dst (by kernel_rfl))
      have hs8 : 300 < a.tmps.size := by rw [hsz2]; first | (simp; done) | (show 300 < 301; decide)
      have hbk := (HW.out W hb).2.2
      have hBD : Below gs w w0.drew := HB0.out.trans (by (first | assumption | (repeat (first | exact Below.refl _ _ | assumption | apply Below.drew | apply below_drewN | (refine Below.setCell ?_ (by (try simp) <;> omega) _) | (refine Below.alloc ?_ (by (try simp) <;> omega) _)))))
      have hBl : Below gs w W := hBD.trans (hb.mono (hgs ▸ hBD.size))
      have HBL := Lib.hid hBl
      simp only [List.drop_succ_cons, List.drop_zero]
      have hsl2 := St.cells_len (s := s) hgx
      refine wpList_puts (want_none rfl) 31 _ _ rfl gr 0 q4 (St.cells s) qs 31 St.zero.cells hbk 102 hsl2 (by rw [St.cells_len St.zero_good]; omega) hi_rstate St.one_cells ?_
      intro w7 hb7 hm7 hz7
      rw [put_all (by rw [St.cells_len St.zero_good]; exact hsl2)] at hb7
      have HB7 := Lib.hid hb7
      have HM7 := Lib.hid hm7
      obtain ⟨vo, hvo⟩ : ∃ v, a.eval (.tmp 299) = v := ⟨_, rfl⟩
      rw [hvo] at qo
      have HO := Lib.hid qo
      have p4 := q4
      have po := hvo
      rw [Act.eval, Array.getD_eq_getD_getElem?] at p4 po
      clear hb7 hm7 qo qs hBl
      go_wp2_with fail
      have go_ : a.tmps[299]'(by omega) = vo := by rw [Array.getElem?_eq_getElem (by omega)] at po; simpa using po
      have HBB := HBL
      have hNg : gr < N := by rw [← hN]; have := hbk.lt; have := HR0.out.drew.lt; omega
      have h1 := Kh1.out
      have h2 := Kh2.out
      have h3 := Kh3.out
      have k12 := Kk12.out
      have hr := Khr.out
      have g0 := Kg0.out
      have g1 := Kg1.out
      have g2 := Kg2.out
      refine bodyPost_ret (rstep_results (s := s) (hgx) HB7.out ((set_getD_far (by decide)).trans q4) ((set_getD_same (by omega)).trans go_)) rfl ?_
      exact rstep_end (N := N) HO.out (by omega) (by omega) HM7.out (by rw [hgs]; exact HBB.out) (by first | (simp [stepF, nowF, lockF, lateF, prevF, precF, agreedF, beginOut, h1, h2, h3, k12, hr, Int.not_lt.2 g0, Int.not_lt.2 g1, show s.round < 1048576 from hr ▸ g2]; done) | (simp [stepF, nowF, lockF, lateF, prevF, precF, agreedF, beginOut, h1, h2, h3, k12, hr, Int.not_lt.2 g0, Int.not_lt.2 g1, show s.round < 1048576 from hr ▸ g2]; omega) | (simp [stepF, nowF, lockF, lateF, prevF, precF, agreedF, beginOut, h1, h2, h3, k12, hr, Int.not_lt.2 g0, Int.not_lt.2 g1, show s.round < 1048576 from hr ▸ g2]; intros; omega))

set_option maxRecDepth 100000 in
set_option maxHeartbeats 4000000 in
theorem rstepL_l6 (s : St) (i : In) (w : World) (hs : s.good) (hi : i.fits) (h1 : ¬ i.round < 0) (h2 : ¬ 1048576 < i.round) (h3 : ¬ s.step = 4) (k6 : i.kind = 6) (hr : i.round = s.round) (g0 : s.step = 2) :
    Calls Tryd.prog 11 #[.agg s.cells.toArray, .agg i.cells.toArray] w (RTold w (stepF s i)) := by
  have Kh1 := Lib.hid h1
  have Kh2 := Lib.hid h2
  have Kh3 := Lib.hid h3
  have Kk6 := Lib.hid k6
  have Khr := Lib.hid hr
  have Kg0 := Lib.hid g0
  clear h1 h2 h3 k6 hr g0
  have hzs := zero_rstate
  have hz := zeros_len
  have hzl : (bts zeros).length = 32 := by rw [bts_len, zeros_len]
  have hbl : (bts i.block).length = 32 := by rw [bts_len, hi.block]
  have hol : (bts i.own).length = 32 := by rw [bts_len, hi.own]
  have hll : (bts s.locked).length = 32 := by rw [bts_len, hs.locked]
  have hvl : (bts s.valid).length = 32 := by rw [bts_len, hs.valid]
  have hib := hi.block
  have hio := hi.own
  have hsk := hs.locked
  have hcl := In.cells_len hi
  have hsl := St.cells_len hs
  go_enter Tryd.func11, Tryd.ntmps11
  go_upto_region 1 with fail
  have HS0 := Lib.hid (show Bk (((w.alloc (.cells s.cells.toArray 31)).alloc (.cells i.cells.toArray 36)).alloc (.cells St.zero.cells.toArray 31)) w.heap.size 31 s.cells.toArray from ((Bk.new w 31 s.cells.toArray).alloc _).alloc _)
  have HI0 := Lib.hid (show Bk (((w.alloc (.cells s.cells.toArray 31)).alloc (.cells i.cells.toArray 36)).alloc (.cells St.zero.cells.toArray 31)) (w.heap.size + 1) 36 i.cells.toArray from by have := (Bk.new (w.alloc (.cells s.cells.toArray 31)) 36 i.cells.toArray).alloc (.cells St.zero.cells.toArray 31); simpa using this)
  have HR0 := Lib.hid (show Bk (((w.alloc (.cells s.cells.toArray 31)).alloc (.cells i.cells.toArray 36)).alloc (.cells St.zero.cells.toArray 31)) (w.heap.size + 1 + 1) 31 St.zero.cells.toArray from by have := Bk.new ((w.alloc (.cells s.cells.toArray 31)).alloc (.cells i.cells.toArray 36)) 31 St.zero.cells.toArray; simpa using this)
  have HB0 := Lib.hid (show Below w.heap.size w (((w.alloc (.cells s.cells.toArray 31)).alloc (.cells i.cells.toArray 36)).alloc (.cells St.zero.cells.toArray 31)) from (by (first | assumption | (repeat (first | exact Below.refl _ _ | assumption | apply Below.drew | apply below_drewN | (refine Below.setCell ?_ (by (try simp) <;> omega) _) | (refine Below.alloc ?_ (by (try simp) <;> omega) _))))))
  obtain ⟨v0, hv0⟩ : ∃ v0, ((w.alloc (.cells s.cells.toArray 31)).alloc (.cells i.cells.toArray 36)).alloc (.cells St.zero.cells.toArray 31) = v0 := ⟨_, rfl⟩
  have hsz : v0.heap.size = w.heap.size + 1 + 1 + 1 := by rw [← hv0]; simp
  obtain ⟨gs, hgs⟩ : ∃ gs, w.heap.size = gs := ⟨_, rfl⟩
  rw [hv0] at HS0 HI0 HR0 HB0 ⊢
  rw [hgs] at HS0 HI0 HR0 HB0 hsz ⊢
  obtain ⟨gi, hgi⟩ : ∃ gi, gs + 1 = gi := ⟨_, rfl⟩
  rw [hgi] at HI0 HR0 hsz ⊢
  obtain ⟨gr, hgr⟩ : ∃ gr, gi + 1 = gr := ⟨_, rfl⟩
  rw [hgr] at HR0 hsz ⊢
  clear hv0 hzs
  obtain ⟨d0, d1, d2, d34, d35, d36⟩ := in_out HI0.out hi
  go_wp2_with (refine wpList_val (by rfl) (run_load_seg 23 _ (by with_reducible rfl) _ _ (by rfl) _ (by assumption) 32 (by assumption) _ hu_hash (by rfl) hi_hash) ?_)
  with_reducible refine (rempty_any i.block hi.block _).mono ?_
  rintro e v1 ⟨rfl, hb1⟩
  have HS1 := Lib.hid (HS0.out.below hb1 HS0.out.lt)
  have HI1 := Lib.hid (HI0.out.below hb1 HI0.out.lt)
  have HR1 := Lib.hid (HR0.out.below hb1 HR0.out.lt)
  have HB1 := Lib.hid (HB0.out.trans (hb1.mono (by omega)))
  have hz1 := hb1.size
  clear hb1 HS0 HI0 HR0 HB0 d0 d1 d2 d34 d35 d36
  obtain ⟨d0, d1, d2, d34, d35, d36⟩ := in_out HI1.out hi
  go_wp2_with (refine wpList_val (by rfl) (run_load_seg 23 _ (by with_reducible rfl) _ _ (by rfl) _ (by assumption) 32 (by assumption) _ hu_hash (by rfl) hi_hash) ?_)
  with_reducible refine (rempty_any i.own hi.own _).mono ?_
  rintro e w0 ⟨rfl, hb1⟩
  have HS0 := Lib.hid (HS1.out.below hb1 HS1.out.lt)
  have HI0 := Lib.hid (HI1.out.below hb1 HI1.out.lt)
  have HR0 := Lib.hid (HR1.out.below hb1 HR1.out.lt)
  have HB0 : Hid (Below gs w w0) := Lib.hid (HB1.out.trans (hb1.mono (by omega)))
  have hz0 : v0.heap.size ≤ w0.heap.size := Nat.le_trans hz1 hb1.size
  clear hb1 HS1 HI1 HR1 HB1 d0 d1 d2 d34 d35 d36 hz1
  cases hg : i.good with
  | true =>
    obtain ⟨c0, c1, c2, c34, c35, c67, c68, c100, c101⟩ := st_out HS0.out hs
    obtain ⟨d0, d1, d2, d34, d35, d36⟩ := in_out HI0.out hi
    rw [hg] at d35
    have h1 := Kh1.out
    have h2 := Kh2.out
    have h3 := Kh3.out
    have k6 := Kk6.out
    have hr := Khr.out
    have g0 := Kg0.out
    have el : decide (i.round < 0) = false := by simpa using h1
    have em : decide (1048576 < i.round) = false := by simpa using h2
    have e4 : (s.step == 4) = false := by simpa using h3
    have en1 : (i.kind == 1) = false := by simp [k6]
    have en2 : (i.kind == 2) = false := by simp [k6]
    have en3 : (i.kind == 3) = false := by simp [k6]
    have en4 : (i.kind == 4) = false := by simp [k6]
    have en5 : (i.kind == 5) = false := by simp [k6]
    have en6 : (i.kind == 6) = true := by simp [k6]
    have en7 : (i.kind == 7) = false := by simp [k6]
    have en8 : (i.kind == 8) = false := by simp [k6]
    have en9 : (i.kind == 9) = false := by simp [k6]
    have en10 : (i.kind == 10) = false := by simp [k6]
    have en11 : (i.kind == 11) = false := by simp [k6]
    have en12 : (i.kind == 12) = false := by simp [k6]
    have er : (i.round == s.round) = true := by simp [hr]
    have f0 : (s.step == 2) = true := by simpa using g0
    clear h1 h2 h3 k6 hr g0
    have hfz := HS0.out.frozen 1
    go_upto_region 42 with (first | (refine wpList_val (by rfl) (run_load_seg 23 _ (by with_reducible rfl) _ _ (by rfl) _ (by assumption) 32 (by assumption) _ hu_hash (by rfl) hi_hash) ?_))
    obtain ⟨w1, hw1⟩ : ∃ x, w0.setCell ⟨gs, 1, none⟩ (.int .i64 3) = x := ⟨_, rfl⟩
    have HS1 : Hid (Bk w1 gs 31 (St.cells {s with step := 3}).toArray) := Lib.hid (hw1 ▸ set_step HS0.out 3)
    have HI1 : Hid (Bk w1 gi 36 i.cells.toArray) := Lib.hid (hw1 ▸ HI0.out.far (p := ⟨gs, 1, none⟩) (by show gi ≠ gs; omega) (.int .i64 3))
    have HR1 : Hid (Bk w1 gr 31 St.zero.cells.toArray) := Lib.hid (hw1 ▸ HR0.out.far (p := ⟨gs, 1, none⟩) (by show gr ≠ gs; omega) (.int .i64 3))
    have HB1 : Hid (Below gs w w1) := Lib.hid (hw1 ▸ HB0.out.setCell (by show gs ≤ gs; omega) _)
    rw [hw1]
    clear hw1 hfz
    clear c0 c1 c2 c34 c35 c67 c68 c100 c101 d0 d1 d2 d34 d35 d36
    obtain ⟨N, hN⟩ : ∃ N, w1.drew.heap.size = N := ⟨_, rfl⟩
    have HW : Hid (∀ W, Below w1.drew.heap.size w1.drew W → Bk W gs 31 (St.cells {s with step := 3}).toArray ∧ Bk W gi 36 i.cells.toArray ∧ Bk W gr 31 St.zero.cells.toArray) := Lib.hid (fun W h => ⟨HS1.out.drew.below h (HS1.out.drew.lt), HI1.out.drew.below h (HI1.out.drew.lt), HR1.out.drew.below h (HR1.out.drew.lt)⟩)
    have hgx : ({s with step := 3} : St).good := ⟨hs.locked, hs.valid, hs.block⟩
    have hsl1 := St.cells_len (s := {s with step := 3}) hgx
    have hbl1 : (bts ({s with step := 3} : St).valid).length = 32 := by rw [bts_len, hgx.valid]
    have hkl1 : (bts ({s with step := 3} : St).locked).length = 32 := by rw [bts_len, hgx.locked]
    refine wp_region_each_tail 4 (lstV [fun v _ => v = .agg (St.cells {s with step := 3}).toArray, fun v _ => v = .int .i64 i.round, fun v _ => v = .agg (bts zeros).toArray, fun v W => ROutAt W N v (some ⟨3, i.round, zeros, 0⟩)]) (by kernel_rfl) (by kernel_rfl) (lstV_on (by repeat' (first | exact forall_nil | refine forall_cons ?_ ?_ | exact stays_rout _ _ | exact stays_tup _ _ _ | exact stays_eq _))) ?turns ?fin
    case turns =>
      refine ⟨fun a W pre => ?_, fun a W pre => ?_, fun a W pre => ?_, fun a W pre => ?_, trivial⟩
      · refine .inl ?_
        have e2 : a.eval (.tmp 2) = .pointer (some ⟨gs, 0, none⟩) := pre.was 2 (by kernel_rfl) rfl
        have q2 := e2
        rw [Act.eval, Array.getD_eq_getD_getElem?] at q2
        exact does_val (want_none rfl) (run_load_seg 31 _ rfl gs 0 e2 (St.cells {s with step := 3}) (HW.out W pre.b).1.all 102 hsl1 _ Tryd.underlying31 rfl hi_rstate) rfl
      · refine .inl ?_
        have e6 : a.eval (.tmp 6) = .int .i64 i.round := pre.was 6 (by kernel_rfl) rfl
        have q6 := e6
        rw [Act.eval, Array.getD_eq_getD_getElem?] at q6
        exact does_val (want_none rfl) (by go_simp) rfl
      · refine .inl ?_
        exact does_val (want_none rfl) (run_build_at 23 _ rfl (bts zeros) (by exact made_noneR)) rfl
      · refine .inl ?_
        have e214 : a.eval (.tmp 214) = .int .i64 i.round := pre.val 1 214 (by kernel_rfl) (by kernel_rfl)
        have q214 := e214
        rw [Act.eval, Array.getD_eq_getD_getElem?] at q214
        have e215 : a.eval (.tmp 215) = .agg (bts zeros).toArray := pre.val 2 215 (by kernel_rfl) (by kernel_rfl)
        have q215 := e215
        rw [Act.eval, Array.getD_eq_getD_getElem?] at q215
        refine does_call_ex (want_none rfl) (by go_simp) ((rone_any 3 (i.round) 0 zeros zeros_len W).mono fun e W' hx => ?_)
        obtain ⟨u, h1, h2, h3⟩ := hx
        exact ⟨u, h1, h2.less (hN ▸ pre.b.size), h3⟩
    case fin =>
      intro a W hb hsz2 hd hv ho
      have qs : a.eval (.tmp 213) = .agg (St.cells {s with step := 3}).toArray := hv 0 213 (by decide) (by kernel_rfl)
      have qo : ROutAt W N (a.eval (.tmp 216)) (some ⟨3, i.round, zeros, 0⟩) := hv 3 216 (by decide) (by kernel_rfl)
      have q4 : a.eval (.tmp 4) = .pointer (some ⟨gr, 0, none⟩) := ho 4 (no_dst (by kernel_rfl))
      have hs8 : 300 < a.tmps.size := by rw [hsz2]; first | (simp; done) | (show 300 < 301; decide)
      have hbk := (HW.out W hb).2.2
      have hBD : Below gs w w1.drew := HB1.out.trans (by (first | assumption | (repeat (first | exact Below.refl _ _ | assumption | apply Below.drew | apply below_drewN | (refine Below.setCell ?_ (by (try simp) <;> omega) _) | (refine Below.alloc ?_ (by (try simp) <;> omega) _)))))
      have hBl : Below gs w W := hBD.trans (hb.mono (hgs ▸ hBD.size))
      have HBL := Lib.hid hBl
      simp only [List.drop_succ_cons, List.drop_zero]
      have hsl2 := St.cells_len (s := {s with step := 3}) hgx
      refine wpList_puts (want_none rfl) 31 _ _ rfl gr 0 q4 (St.cells {s with step := 3}) qs 31 St.zero.cells hbk 102 hsl2 (by rw [St.cells_len St.zero_good]; omega) hi_rstate St.one_cells ?_
      intro w7 hb7 hm7 hz7
      rw [put_all (by rw [St.cells_len St.zero_good]; exact hsl2)] at hb7
      have HB7 := Lib.hid hb7
      have HM7 := Lib.hid hm7
      obtain ⟨vo, hvo⟩ : ∃ v, a.eval (.tmp 216) = v := ⟨_, rfl⟩
      rw [hvo] at qo
      have HO := Lib.hid qo
      have p4 := q4
      have po := hvo
      rw [Act.eval, Array.getD_eq_getD_getElem?] at p4 po
      clear hb7 hm7 qo qs hBl
      go_wp2_with fail
      have go_ : a.tmps[216]'(by omega) = vo := by rw [Array.getElem?_eq_getElem (by omega)] at po; simpa using po
      have HBB := HBL
      have hNg : gr < N := by rw [← hN]; have := hbk.lt; have := HR1.out.drew.lt; omega
      have h1 := Kh1.out
      have h2 := Kh2.out
      have h3 := Kh3.out
      have k6 := Kk6.out
      have hr := Khr.out
      have g0 := Kg0.out
      refine bodyPost_ret (rstep_results (s := {s with step := 3}) (hgx) HB7.out ((set_getD_far (by decide)).trans q4) ((set_getD_same (by omega)).trans go_)) rfl ?_
      exact rstep_end (N := N) HO.out (by omega) (by omega) HM7.out (by rw [hgs]; exact HBB.out) (by first | (simp [stepF, nowF, lockF, lateF, prevF, precF, agreedF, beginOut, h1, h2, h3, k6, hr, g0]; done) | (simp [stepF, nowF, lockF, lateF, prevF, precF, agreedF, beginOut, h1, h2, h3, k6, hr, g0]; omega) | (simp [stepF, nowF, lockF, lateF, prevF, precF, agreedF, beginOut, h1, h2, h3, k6, hr, g0]; intros; omega))
  | false =>
    obtain ⟨c0, c1, c2, c34, c35, c67, c68, c100, c101⟩ := st_out HS0.out hs
    obtain ⟨d0, d1, d2, d34, d35, d36⟩ := in_out HI0.out hi
    rw [hg] at d35
    have h1 := Kh1.out
    have h2 := Kh2.out
    have h3 := Kh3.out
    have k6 := Kk6.out
    have hr := Khr.out
    have g0 := Kg0.out
    have el : decide (i.round < 0) = false := by simpa using h1
    have em : decide (1048576 < i.round) = false := by simpa using h2
    have e4 : (s.step == 4) = false := by simpa using h3
    have en1 : (i.kind == 1) = false := by simp [k6]
    have en2 : (i.kind == 2) = false := by simp [k6]
    have en3 : (i.kind == 3) = false := by simp [k6]
    have en4 : (i.kind == 4) = false := by simp [k6]
    have en5 : (i.kind == 5) = false := by simp [k6]
    have en6 : (i.kind == 6) = true := by simp [k6]
    have en7 : (i.kind == 7) = false := by simp [k6]
    have en8 : (i.kind == 8) = false := by simp [k6]
    have en9 : (i.kind == 9) = false := by simp [k6]
    have en10 : (i.kind == 10) = false := by simp [k6]
    have en11 : (i.kind == 11) = false := by simp [k6]
    have en12 : (i.kind == 12) = false := by simp [k6]
    have er : (i.round == s.round) = true := by simp [hr]
    have f0 : (s.step == 2) = true := by simpa using g0
    clear h1 h2 h3 k6 hr g0
    have hfz := HS0.out.frozen 1
    go_upto_region 42 with (first | (refine wpList_val (by rfl) (run_load_seg 23 _ (by with_reducible rfl) _ _ (by rfl) _ (by assumption) 32 (by assumption) _ hu_hash (by rfl) hi_hash) ?_))
    obtain ⟨w1, hw1⟩ : ∃ x, w0.setCell ⟨gs, 1, none⟩ (.int .i64 3) = x := ⟨_, rfl⟩
    have HS1 : Hid (Bk w1 gs 31 (St.cells {s with step := 3}).toArray) := Lib.hid (hw1 ▸ set_step HS0.out 3)
    have HI1 : Hid (Bk w1 gi 36 i.cells.toArray) := Lib.hid (hw1 ▸ HI0.out.far (p := ⟨gs, 1, none⟩) (by show gi ≠ gs; omega) (.int .i64 3))
    have HR1 : Hid (Bk w1 gr 31 St.zero.cells.toArray) := Lib.hid (hw1 ▸ HR0.out.far (p := ⟨gs, 1, none⟩) (by show gr ≠ gs; omega) (.int .i64 3))
    have HB1 : Hid (Below gs w w1) := Lib.hid (hw1 ▸ HB0.out.setCell (by show gs ≤ gs; omega) _)
    rw [hw1]
    clear hw1 hfz
    clear c0 c1 c2 c34 c35 c67 c68 c100 c101 d0 d1 d2 d34 d35 d36
    obtain ⟨N, hN⟩ : ∃ N, w1.drew.heap.size = N := ⟨_, rfl⟩
    have HW : Hid (∀ W, Below w1.drew.heap.size w1.drew W → Bk W gs 31 (St.cells {s with step := 3}).toArray ∧ Bk W gi 36 i.cells.toArray ∧ Bk W gr 31 St.zero.cells.toArray) := Lib.hid (fun W h => ⟨HS1.out.drew.below h (HS1.out.drew.lt), HI1.out.drew.below h (HI1.out.drew.lt), HR1.out.drew.below h (HR1.out.drew.lt)⟩)
    have hgx : ({s with step := 3} : St).good := ⟨hs.locked, hs.valid, hs.block⟩
    have hsl1 := St.cells_len (s := {s with step := 3}) hgx
    have hbl1 : (bts ({s with step := 3} : St).valid).length = 32 := by rw [bts_len, hgx.valid]
    have hkl1 : (bts ({s with step := 3} : St).locked).length = 32 := by rw [bts_len, hgx.locked]
    refine wp_region_each_tail 4 (lstV [fun v _ => v = .agg (St.cells {s with step := 3}).toArray, fun v _ => v = .int .i64 i.round, fun v _ => v = .agg (bts zeros).toArray, fun v W => ROutAt W N v (some ⟨3, i.round, zeros, 0⟩)]) (by kernel_rfl) (by kernel_rfl) (lstV_on (by repeat' (first | exact forall_nil | refine forall_cons ?_ ?_ | exact stays_rout _ _ | exact stays_tup _ _ _ | exact stays_eq _))) ?turns ?fin
    case turns =>
      refine ⟨fun a W pre => ?_, fun a W pre => ?_, fun a W pre => ?_, fun a W pre => ?_, trivial⟩
      · refine .inl ?_
        have e2 : a.eval (.tmp 2) = .pointer (some ⟨gs, 0, none⟩) := pre.was 2 (by kernel_rfl) rfl
        have q2 := e2
        rw [Act.eval, Array.getD_eq_getD_getElem?] at q2
        exact does_val (want_none rfl) (run_load_seg 31 _ rfl gs 0 e2 (St.cells {s with step := 3}) (HW.out W pre.b).1.all 102 hsl1 _ Tryd.underlying31 rfl hi_rstate) rfl
      · refine .inl ?_
        have e6 : a.eval (.tmp 6) = .int .i64 i.round := pre.was 6 (by kernel_rfl) rfl
        have q6 := e6
        rw [Act.eval, Array.getD_eq_getD_getElem?] at q6
        exact does_val (want_none rfl) (by go_simp) rfl
      · refine .inl ?_
        exact does_val (want_none rfl) (run_build_at 23 _ rfl (bts zeros) (by exact made_noneR)) rfl
      · refine .inl ?_
        have e214 : a.eval (.tmp 214) = .int .i64 i.round := pre.val 1 214 (by kernel_rfl) (by kernel_rfl)
        have q214 := e214
        rw [Act.eval, Array.getD_eq_getD_getElem?] at q214
        have e215 : a.eval (.tmp 215) = .agg (bts zeros).toArray := pre.val 2 215 (by kernel_rfl) (by kernel_rfl)
        have q215 := e215
        rw [Act.eval, Array.getD_eq_getD_getElem?] at q215
        refine does_call_ex (want_none rfl) (by go_simp) ((rone_any 3 (i.round) 0 zeros zeros_len W).mono fun e W' hx => ?_)
        obtain ⟨u, h1, h2, h3⟩ := hx
        exact ⟨u, h1, h2.less (hN ▸ pre.b.size), h3⟩
    case fin =>
      intro a W hb hsz2 hd hv ho
      have qs : a.eval (.tmp 213) = .agg (St.cells {s with step := 3}).toArray := hv 0 213 (by decide) (by kernel_rfl)
      have qo : ROutAt W N (a.eval (.tmp 216)) (some ⟨3, i.round, zeros, 0⟩) := hv 3 216 (by decide) (by kernel_rfl)
      have q4 : a.eval (.tmp 4) = .pointer (some ⟨gr, 0, none⟩) := ho 4 (no_dst (by kernel_rfl))
      have hs8 : 300 < a.tmps.size := by rw [hsz2]; first | (simp; done) | (show 300 < 301; decide)
      have hbk := (HW.out W hb).2.2
      have hBD : Below gs w w1.drew := HB1.out.trans (by (first | assumption | (repeat (first | exact Below.refl _ _ | assumption | apply Below.drew | apply below_drewN | (refine Below.setCell ?_ (by (try simp) <;> omega) _) | (refine Below.alloc ?_ (by (try simp) <;> omega) _)))))
      have hBl : Below gs w W := hBD.trans (hb.mono (hgs ▸ hBD.size))
      have HBL := Lib.hid hBl
      simp only [List.drop_succ_cons, List.drop_zero]
      have hsl2 := St.cells_len (s := {s with step := 3}) hgx
      refine wpList_puts (want_none rfl) 31 _ _ rfl gr 0 q4 (St.cells {s with step := 3}) qs 31 St.zero.cells hbk 102 hsl2 (by rw [St.cells_len St.zero_good]; omega) hi_rstate St.one_cells ?_
      intro w7 hb7 hm7 hz7
      rw [put_all (by rw [St.cells_len St.zero_good]; exact hsl2)] at hb7
      have HB7 := Lib.hid hb7
      have HM7 := Lib.hid hm7
      obtain ⟨vo, hvo⟩ : ∃ v, a.eval (.tmp 216) = v := ⟨_, rfl⟩
      rw [hvo] at qo
      have HO := Lib.hid qo
      have p4 := q4
      have po := hvo
      rw [Act.eval, Array.getD_eq_getD_getElem?] at p4 po
      clear hb7 hm7 qo qs hBl
      go_wp2_with fail
      have go_ : a.tmps[216]'(by omega) = vo := by rw [Array.getElem?_eq_getElem (by omega)] at po; simpa using po
      have HBB := HBL
      have hNg : gr < N := by rw [← hN]; have := hbk.lt; have := HR1.out.drew.lt; omega
      have h1 := Kh1.out
      have h2 := Kh2.out
      have h3 := Kh3.out
      have k6 := Kk6.out
      have hr := Khr.out
      have g0 := Kg0.out
      refine bodyPost_ret (rstep_results (s := {s with step := 3}) (hgx) HB7.out ((set_getD_far (by decide)).trans q4) ((set_getD_same (by omega)).trans go_)) rfl ?_
      exact rstep_end (N := N) HO.out (by omega) (by omega) HM7.out (by rw [hgs]; exact HBB.out) (by first | (simp [stepF, nowF, lockF, lateF, prevF, precF, agreedF, beginOut, h1, h2, h3, k6, hr, g0]; done) | (simp [stepF, nowF, lockF, lateF, prevF, precF, agreedF, beginOut, h1, h2, h3, k6, hr, g0]; omega) | (simp [stepF, nowF, lockF, lateF, prevF, precF, agreedF, beginOut, h1, h2, h3, k6, hr, g0]; intros; omega))

set_option maxRecDepth 100000 in
set_option maxHeartbeats 4000000 in
theorem rstepL_l11 (s : St) (i : In) (w : World) (hs : s.good) (hi : i.fits) (h1 : ¬ i.round < 0) (h2 : ¬ 1048576 < i.round) (h3 : ¬ s.step = 4) (k11 : i.kind = 11) (hr : i.round = s.round) (g0 : s.step = 2) :
    Calls Tryd.prog 11 #[.agg s.cells.toArray, .agg i.cells.toArray] w (RTold w (stepF s i)) := by
  have Kh1 := Lib.hid h1
  have Kh2 := Lib.hid h2
  have Kh3 := Lib.hid h3
  have Kk11 := Lib.hid k11
  have Khr := Lib.hid hr
  have Kg0 := Lib.hid g0
  clear h1 h2 h3 k11 hr g0
  have hzs := zero_rstate
  have hz := zeros_len
  have hzl : (bts zeros).length = 32 := by rw [bts_len, zeros_len]
  have hbl : (bts i.block).length = 32 := by rw [bts_len, hi.block]
  have hol : (bts i.own).length = 32 := by rw [bts_len, hi.own]
  have hll : (bts s.locked).length = 32 := by rw [bts_len, hs.locked]
  have hvl : (bts s.valid).length = 32 := by rw [bts_len, hs.valid]
  have hib := hi.block
  have hio := hi.own
  have hsk := hs.locked
  have hcl := In.cells_len hi
  have hsl := St.cells_len hs
  go_enter Tryd.func11, Tryd.ntmps11
  go_upto_region 1 with fail
  have HS0 := Lib.hid (show Bk (((w.alloc (.cells s.cells.toArray 31)).alloc (.cells i.cells.toArray 36)).alloc (.cells St.zero.cells.toArray 31)) w.heap.size 31 s.cells.toArray from ((Bk.new w 31 s.cells.toArray).alloc _).alloc _)
  have HI0 := Lib.hid (show Bk (((w.alloc (.cells s.cells.toArray 31)).alloc (.cells i.cells.toArray 36)).alloc (.cells St.zero.cells.toArray 31)) (w.heap.size + 1) 36 i.cells.toArray from by have := (Bk.new (w.alloc (.cells s.cells.toArray 31)) 36 i.cells.toArray).alloc (.cells St.zero.cells.toArray 31); simpa using this)
  have HR0 := Lib.hid (show Bk (((w.alloc (.cells s.cells.toArray 31)).alloc (.cells i.cells.toArray 36)).alloc (.cells St.zero.cells.toArray 31)) (w.heap.size + 1 + 1) 31 St.zero.cells.toArray from by have := Bk.new ((w.alloc (.cells s.cells.toArray 31)).alloc (.cells i.cells.toArray 36)) 31 St.zero.cells.toArray; simpa using this)
  have HB0 := Lib.hid (show Below w.heap.size w (((w.alloc (.cells s.cells.toArray 31)).alloc (.cells i.cells.toArray 36)).alloc (.cells St.zero.cells.toArray 31)) from (by (first | assumption | (repeat (first | exact Below.refl _ _ | assumption | apply Below.drew | apply below_drewN | (refine Below.setCell ?_ (by (try simp) <;> omega) _) | (refine Below.alloc ?_ (by (try simp) <;> omega) _))))))
  obtain ⟨v0, hv0⟩ : ∃ v0, ((w.alloc (.cells s.cells.toArray 31)).alloc (.cells i.cells.toArray 36)).alloc (.cells St.zero.cells.toArray 31) = v0 := ⟨_, rfl⟩
  have hsz : v0.heap.size = w.heap.size + 1 + 1 + 1 := by rw [← hv0]; simp
  obtain ⟨gs, hgs⟩ : ∃ gs, w.heap.size = gs := ⟨_, rfl⟩
  rw [hv0] at HS0 HI0 HR0 HB0 ⊢
  rw [hgs] at HS0 HI0 HR0 HB0 hsz ⊢
  obtain ⟨gi, hgi⟩ : ∃ gi, gs + 1 = gi := ⟨_, rfl⟩
  rw [hgi] at HI0 HR0 hsz ⊢
  obtain ⟨gr, hgr⟩ : ∃ gr, gi + 1 = gr := ⟨_, rfl⟩
  rw [hgr] at HR0 hsz ⊢
  clear hv0 hzs
  obtain ⟨d0, d1, d2, d34, d35, d36⟩ := in_out HI0.out hi
  go_wp2_with (refine wpList_val (by rfl) (run_load_seg 23 _ (by with_reducible rfl) _ _ (by rfl) _ (by assumption) 32 (by assumption) _ hu_hash (by rfl) hi_hash) ?_)
  with_reducible refine (rempty_any i.block hi.block _).mono ?_
  rintro e v1 ⟨rfl, hb1⟩
  have HS1 := Lib.hid (HS0.out.below hb1 HS0.out.lt)
  have HI1 := Lib.hid (HI0.out.below hb1 HI0.out.lt)
  have HR1 := Lib.hid (HR0.out.below hb1 HR0.out.lt)
  have HB1 := Lib.hid (HB0.out.trans (hb1.mono (by omega)))
  have hz1 := hb1.size
  clear hb1 HS0 HI0 HR0 HB0 d0 d1 d2 d34 d35 d36
  obtain ⟨d0, d1, d2, d34, d35, d36⟩ := in_out HI1.out hi
  go_wp2_with (refine wpList_val (by rfl) (run_load_seg 23 _ (by with_reducible rfl) _ _ (by rfl) _ (by assumption) 32 (by assumption) _ hu_hash (by rfl) hi_hash) ?_)
  with_reducible refine (rempty_any i.own hi.own _).mono ?_
  rintro e w0 ⟨rfl, hb1⟩
  have HS0 := Lib.hid (HS1.out.below hb1 HS1.out.lt)
  have HI0 := Lib.hid (HI1.out.below hb1 HI1.out.lt)
  have HR0 := Lib.hid (HR1.out.below hb1 HR1.out.lt)
  have HB0 : Hid (Below gs w w0) := Lib.hid (HB1.out.trans (hb1.mono (by omega)))
  have hz0 : v0.heap.size ≤ w0.heap.size := Nat.le_trans hz1 hb1.size
  clear hb1 HS1 HI1 HR1 HB1 d0 d1 d2 d34 d35 d36 hz1
  cases hg : i.good with
  | true =>
    obtain ⟨c0, c1, c2, c34, c35, c67, c68, c100, c101⟩ := st_out HS0.out hs
    obtain ⟨d0, d1, d2, d34, d35, d36⟩ := in_out HI0.out hi
    rw [hg] at d35
    have h1 := Kh1.out
    have h2 := Kh2.out
    have h3 := Kh3.out
    have k11 := Kk11.out
    have hr := Khr.out
    have g0 := Kg0.out
    have el : decide (i.round < 0) = false := by simpa using h1
    have em : decide (1048576 < i.round) = false := by simpa using h2
    have e4 : (s.step == 4) = false := by simpa using h3
    have en1 : (i.kind == 1) = false := by simp [k11]
    have en2 : (i.kind == 2) = false := by simp [k11]
    have en3 : (i.kind == 3) = false := by simp [k11]
    have en4 : (i.kind == 4) = false := by simp [k11]
    have en5 : (i.kind == 5) = false := by simp [k11]
    have en6 : (i.kind == 6) = false := by simp [k11]
    have en7 : (i.kind == 7) = false := by simp [k11]
    have en8 : (i.kind == 8) = false := by simp [k11]
    have en9 : (i.kind == 9) = false := by simp [k11]
    have en10 : (i.kind == 10) = false := by simp [k11]
    have en11 : (i.kind == 11) = true := by simp [k11]
    have en12 : (i.kind == 12) = false := by simp [k11]
    have er : (i.round == s.round) = true := by simp [hr]
    have f0 : (s.step == 2) = true := by simpa using g0
    clear h1 h2 h3 k11 hr g0
    have hfz := HS0.out.frozen 1
    go_upto_region 42 with (first | (refine wpList_val (by rfl) (run_load_seg 23 _ (by with_reducible rfl) _ _ (by rfl) _ (by assumption) 32 (by assumption) _ hu_hash (by rfl) hi_hash) ?_))
    obtain ⟨w1, hw1⟩ : ∃ x, w0.setCell ⟨gs, 1, none⟩ (.int .i64 3) = x := ⟨_, rfl⟩
    have HS1 : Hid (Bk w1 gs 31 (St.cells {s with step := 3}).toArray) := Lib.hid (hw1 ▸ set_step HS0.out 3)
    have HI1 : Hid (Bk w1 gi 36 i.cells.toArray) := Lib.hid (hw1 ▸ HI0.out.far (p := ⟨gs, 1, none⟩) (by show gi ≠ gs; omega) (.int .i64 3))
    have HR1 : Hid (Bk w1 gr 31 St.zero.cells.toArray) := Lib.hid (hw1 ▸ HR0.out.far (p := ⟨gs, 1, none⟩) (by show gr ≠ gs; omega) (.int .i64 3))
    have HB1 : Hid (Below gs w w1) := Lib.hid (hw1 ▸ HB0.out.setCell (by show gs ≤ gs; omega) _)
    rw [hw1]
    clear hw1 hfz
    clear c0 c1 c2 c34 c35 c67 c68 c100 c101 d0 d1 d2 d34 d35 d36
    obtain ⟨N, hN⟩ : ∃ N, w1.drew.heap.size = N := ⟨_, rfl⟩
    have HW : Hid (∀ W, Below w1.drew.heap.size w1.drew W → Bk W gs 31 (St.cells {s with step := 3}).toArray ∧ Bk W gi 36 i.cells.toArray ∧ Bk W gr 31 St.zero.cells.toArray) := Lib.hid (fun W h => ⟨HS1.out.drew.below h (HS1.out.drew.lt), HI1.out.drew.below h (HI1.out.drew.lt), HR1.out.drew.below h (HR1.out.drew.lt)⟩)
    have hgx : ({s with step := 3} : St).good := ⟨hs.locked, hs.valid, hs.block⟩
    have hsl1 := St.cells_len (s := {s with step := 3}) hgx
    have hbl1 : (bts ({s with step := 3} : St).valid).length = 32 := by rw [bts_len, hgx.valid]
    have hkl1 : (bts ({s with step := 3} : St).locked).length = 32 := by rw [bts_len, hgx.locked]
    refine wp_region_each_tail 4 (lstV [fun v _ => v = .agg (St.cells {s with step := 3}).toArray, fun v _ => v = .int .i64 i.round, fun v _ => v = .agg (bts zeros).toArray, fun v W => ROutAt W N v (some ⟨3, i.round, zeros, 0⟩)]) (by kernel_rfl) (by kernel_rfl) (lstV_on (by repeat' (first | exact forall_nil | refine forall_cons ?_ ?_ | exact stays_rout _ _ | exact stays_tup _ _ _ | exact stays_eq _))) ?turns ?fin
    case turns =>
      refine ⟨fun a W pre => ?_, fun a W pre => ?_, fun a W pre => ?_, fun a W pre => ?_, trivial⟩
      · refine .inl ?_
        have e2 : a.eval (.tmp 2) = .pointer (some ⟨gs, 0, none⟩) := pre.was 2 (by kernel_rfl) rfl
        have q2 := e2
        rw [Act.eval, Array.getD_eq_getD_getElem?] at q2
        exact does_val (want_none rfl) (run_load_seg 31 _ rfl gs 0 e2 (St.cells {s with step := 3}) (HW.out W pre.b).1.all 102 hsl1 _ Tryd.underlying31 rfl hi_rstate) rfl
      · refine .inl ?_
        have e6 : a.eval (.tmp 6) = .int .i64 i.round := pre.was 6 (by kernel_rfl) rfl
        have q6 := e6
        rw [Act.eval, Array.getD_eq_getD_getElem?] at q6
        exact does_val (want_none rfl) (by go_simp) rfl
      · refine .inl ?_
        exact does_val (want_none rfl) (run_build_at 23 _ rfl (bts zeros) (by exact made_noneR)) rfl
      · refine .inl ?_
        have e214 : a.eval (.tmp 214) = .int .i64 i.round := pre.val 1 214 (by kernel_rfl) (by kernel_rfl)
        have q214 := e214
        rw [Act.eval, Array.getD_eq_getD_getElem?] at q214
        have e215 : a.eval (.tmp 215) = .agg (bts zeros).toArray := pre.val 2 215 (by kernel_rfl) (by kernel_rfl)
        have q215 := e215
        rw [Act.eval, Array.getD_eq_getD_getElem?] at q215
        refine does_call_ex (want_none rfl) (by go_simp) ((rone_any 3 (i.round) 0 zeros zeros_len W).mono fun e W' hx => ?_)
        obtain ⟨u, h1, h2, h3⟩ := hx
        exact ⟨u, h1, h2.less (hN ▸ pre.b.size), h3⟩
    case fin =>
      intro a W hb hsz2 hd hv ho
      have qs : a.eval (.tmp 213) = .agg (St.cells {s with step := 3}).toArray := hv 0 213 (by decide) (by kernel_rfl)
      have qo : ROutAt W N (a.eval (.tmp 216)) (some ⟨3, i.round, zeros, 0⟩) := hv 3 216 (by decide) (by kernel_rfl)
      have q4 : a.eval (.tmp 4) = .pointer (some ⟨gr, 0, none⟩) := ho 4 (no_dst (by kernel_rfl))
      have hs8 : 300 < a.tmps.size := by rw [hsz2]; first | (simp; done) | (show 300 < 301; decide)
      have hbk := (HW.out W hb).2.2
      have hBD : Below gs w w1.drew := HB1.out.trans (by (first | assumption | (repeat (first | exact Below.refl _ _ | assumption | apply Below.drew | apply below_drewN | (refine Below.setCell ?_ (by (try simp) <;> omega) _) | (refine Below.alloc ?_ (by (try simp) <;> omega) _)))))
      have hBl : Below gs w W := hBD.trans (hb.mono (hgs ▸ hBD.size))
      have HBL := Lib.hid hBl
      simp only [List.drop_succ_cons, List.drop_zero]
      have hsl2 := St.cells_len (s := {s with step := 3}) hgx
      refine wpList_puts (want_none rfl) 31 _ _ rfl gr 0 q4 (St.cells {s with step := 3}) qs 31 St.zero.cells hbk 102 hsl2 (by rw [St.cells_len St.zero_good]; omega) hi_rstate St.one_cells ?_
      intro w7 hb7 hm7 hz7
      rw [put_all (by rw [St.cells_len St.zero_good]; exact hsl2)] at hb7
      have HB7 := Lib.hid hb7
      have HM7 := Lib.hid hm7
      obtain ⟨vo, hvo⟩ : ∃ v, a.eval (.tmp 216) = v := ⟨_, rfl⟩
      rw [hvo] at qo
      have HO := Lib.hid qo
      have p4 := q4
      have po := hvo
      rw [Act.eval, Array.getD_eq_getD_getElem?] at p4 po
      clear hb7 hm7 qo qs hBl
      go_wp2_with fail
      have go_ : a.tmps[216]'(by omega) = vo := by rw [Array.getElem?_eq_getElem (by omega)] at po; simpa using po
      have HBB := HBL
      have hNg : gr < N := by rw [← hN]; have := hbk.lt; have := HR1.out.drew.lt; omega
      have h1 := Kh1.out
      have h2 := Kh2.out
      have h3 := Kh3.out
      have k11 := Kk11.out
      have hr := Khr.out
      have g0 := Kg0.out
      refine bodyPost_ret (rstep_results (s := {s with step := 3}) (hgx) HB7.out ((set_getD_far (by decide)).trans q4) ((set_getD_same (by omega)).trans go_)) rfl ?_
      exact rstep_end (N := N) HO.out (by omega) (by omega) HM7.out (by rw [hgs]; exact HBB.out) (by first | (simp [stepF, nowF, lockF, lateF, prevF, precF, agreedF, beginOut, h1, h2, h3, k11, hr, g0]; done) | (simp [stepF, nowF, lockF, lateF, prevF, precF, agreedF, beginOut, h1, h2, h3, k11, hr, g0]; omega) | (simp [stepF, nowF, lockF, lateF, prevF, precF, agreedF, beginOut, h1, h2, h3, k11, hr, g0]; intros; omega))
  | false =>
    obtain ⟨c0, c1, c2, c34, c35, c67, c68, c100, c101⟩ := st_out HS0.out hs
    obtain ⟨d0, d1, d2, d34, d35, d36⟩ := in_out HI0.out hi
    rw [hg] at d35
    have h1 := Kh1.out
    have h2 := Kh2.out
    have h3 := Kh3.out
    have k11 := Kk11.out
    have hr := Khr.out
    have g0 := Kg0.out
    have el : decide (i.round < 0) = false := by simpa using h1
    have em : decide (1048576 < i.round) = false := by simpa using h2
    have e4 : (s.step == 4) = false := by simpa using h3
    have en1 : (i.kind == 1) = false := by simp [k11]
    have en2 : (i.kind == 2) = false := by simp [k11]
    have en3 : (i.kind == 3) = false := by simp [k11]
    have en4 : (i.kind == 4) = false := by simp [k11]
    have en5 : (i.kind == 5) = false := by simp [k11]
    have en6 : (i.kind == 6) = false := by simp [k11]
    have en7 : (i.kind == 7) = false := by simp [k11]
    have en8 : (i.kind == 8) = false := by simp [k11]
    have en9 : (i.kind == 9) = false := by simp [k11]
    have en10 : (i.kind == 10) = false := by simp [k11]
    have en11 : (i.kind == 11) = true := by simp [k11]
    have en12 : (i.kind == 12) = false := by simp [k11]
    have er : (i.round == s.round) = true := by simp [hr]
    have f0 : (s.step == 2) = true := by simpa using g0
    clear h1 h2 h3 k11 hr g0
    have hfz := HS0.out.frozen 1
    go_upto_region 42 with (first | (refine wpList_val (by rfl) (run_load_seg 23 _ (by with_reducible rfl) _ _ (by rfl) _ (by assumption) 32 (by assumption) _ hu_hash (by rfl) hi_hash) ?_))
    obtain ⟨w1, hw1⟩ : ∃ x, w0.setCell ⟨gs, 1, none⟩ (.int .i64 3) = x := ⟨_, rfl⟩
    have HS1 : Hid (Bk w1 gs 31 (St.cells {s with step := 3}).toArray) := Lib.hid (hw1 ▸ set_step HS0.out 3)
    have HI1 : Hid (Bk w1 gi 36 i.cells.toArray) := Lib.hid (hw1 ▸ HI0.out.far (p := ⟨gs, 1, none⟩) (by show gi ≠ gs; omega) (.int .i64 3))
    have HR1 : Hid (Bk w1 gr 31 St.zero.cells.toArray) := Lib.hid (hw1 ▸ HR0.out.far (p := ⟨gs, 1, none⟩) (by show gr ≠ gs; omega) (.int .i64 3))
    have HB1 : Hid (Below gs w w1) := Lib.hid (hw1 ▸ HB0.out.setCell (by show gs ≤ gs; omega) _)
    rw [hw1]
    clear hw1 hfz
    clear c0 c1 c2 c34 c35 c67 c68 c100 c101 d0 d1 d2 d34 d35 d36
    obtain ⟨N, hN⟩ : ∃ N, w1.drew.heap.size = N := ⟨_, rfl⟩
    have HW : Hid (∀ W, Below w1.drew.heap.size w1.drew W → Bk W gs 31 (St.cells {s with step := 3}).toArray ∧ Bk W gi 36 i.cells.toArray ∧ Bk W gr 31 St.zero.cells.toArray) := Lib.hid (fun W h => ⟨HS1.out.drew.below h (HS1.out.drew.lt), HI1.out.drew.below h (HI1.out.drew.lt), HR1.out.drew.below h (HR1.out.drew.lt)⟩)
    have hgx : ({s with step := 3} : St).good := ⟨hs.locked, hs.valid, hs.block⟩
    have hsl1 := St.cells_len (s := {s with step := 3}) hgx
    have hbl1 : (bts ({s with step := 3} : St).valid).length = 32 := by rw [bts_len, hgx.valid]
    have hkl1 : (bts ({s with step := 3} : St).locked).length = 32 := by rw [bts_len, hgx.locked]
    refine wp_region_each_tail 4 (lstV [fun v _ => v = .agg (St.cells {s with step := 3}).toArray, fun v _ => v = .int .i64 i.round, fun v _ => v = .agg (bts zeros).toArray, fun v W => ROutAt W N v (some ⟨3, i.round, zeros, 0⟩)]) (by kernel_rfl) (by kernel_rfl) (lstV_on (by repeat' (first | exact forall_nil | refine forall_cons ?_ ?_ | exact stays_rout _ _ | exact stays_tup _ _ _ | exact stays_eq _))) ?turns ?fin
    case turns =>
      refine ⟨fun a W pre => ?_, fun a W pre => ?_, fun a W pre => ?_, fun a W pre => ?_, trivial⟩
      · refine .inl ?_
        have e2 : a.eval (.tmp 2) = .pointer (some ⟨gs, 0, none⟩) := pre.was 2 (by kernel_rfl) rfl
        have q2 := e2
        rw [Act.eval, Array.getD_eq_getD_getElem?] at q2
        exact does_val (want_none rfl) (run_load_seg 31 _ rfl gs 0 e2 (St.cells {s with step := 3}) (HW.out W pre.b).1.all 102 hsl1 _ Tryd.underlying31 rfl hi_rstate) rfl
      · refine .inl ?_
        have e6 : a.eval (.tmp 6) = .int .i64 i.round := pre.was 6 (by kernel_rfl) rfl
        have q6 := e6
        rw [Act.eval, Array.getD_eq_getD_getElem?] at q6
        exact does_val (want_none rfl) (by go_simp) rfl
      · refine .inl ?_
        exact does_val (want_none rfl) (run_build_at 23 _ rfl (bts zeros) (by exact made_noneR)) rfl
      · refine .inl ?_
        have e214 : a.eval (.tmp 214) = .int .i64 i.round := pre.val 1 214 (by kernel_rfl) (by kernel_rfl)
        have q214 := e214
        rw [Act.eval, Array.getD_eq_getD_getElem?] at q214
        have e215 : a.eval (.tmp 215) = .agg (bts zeros).toArray := pre.val 2 215 (by kernel_rfl) (by kernel_rfl)
        have q215 := e215
        rw [Act.eval, Array.getD_eq_getD_getElem?] at q215
        refine does_call_ex (want_none rfl) (by go_simp) ((rone_any 3 (i.round) 0 zeros zeros_len W).mono fun e W' hx => ?_)
        obtain ⟨u, h1, h2, h3⟩ := hx
        exact ⟨u, h1, h2.less (hN ▸ pre.b.size), h3⟩
    case fin =>
      intro a W hb hsz2 hd hv ho
      have qs : a.eval (.tmp 213) = .agg (St.cells {s with step := 3}).toArray := hv 0 213 (by decide) (by kernel_rfl)
      have qo : ROutAt W N (a.eval (.tmp 216)) (some ⟨3, i.round, zeros, 0⟩) := hv 3 216 (by decide) (by kernel_rfl)
      have q4 : a.eval (.tmp 4) = .pointer (some ⟨gr, 0, none⟩) := ho 4 (no_dst (by kernel_rfl))
      have hs8 : 300 < a.tmps.size := by rw [hsz2]; first | (simp; done) | (show 300 < 301; decide)
      have hbk := (HW.out W hb).2.2
      have hBD : Below gs w w1.drew := HB1.out.trans (by (first | assumption | (repeat (first | exact Below.refl _ _ | assumption | apply Below.drew | apply below_drewN | (refine Below.setCell ?_ (by (try simp) <;> omega) _) | (refine Below.alloc ?_ (by (try simp) <;> omega) _)))))
      have hBl : Below gs w W := hBD.trans (hb.mono (hgs ▸ hBD.size))
      have HBL := Lib.hid hBl
      simp only [List.drop_succ_cons, List.drop_zero]
      have hsl2 := St.cells_len (s := {s with step := 3}) hgx
      refine wpList_puts (want_none rfl) 31 _ _ rfl gr 0 q4 (St.cells {s with step := 3}) qs 31 St.zero.cells hbk 102 hsl2 (by rw [St.cells_len St.zero_good]; omega) hi_rstate St.one_cells ?_
      intro w7 hb7 hm7 hz7
      rw [put_all (by rw [St.cells_len St.zero_good]; exact hsl2)] at hb7
      have HB7 := Lib.hid hb7
      have HM7 := Lib.hid hm7
      obtain ⟨vo, hvo⟩ : ∃ v, a.eval (.tmp 216) = v := ⟨_, rfl⟩
      rw [hvo] at qo
      have HO := Lib.hid qo
      have p4 := q4
      have po := hvo
      rw [Act.eval, Array.getD_eq_getD_getElem?] at p4 po
      clear hb7 hm7 qo qs hBl
      go_wp2_with fail
      have go_ : a.tmps[216]'(by omega) = vo := by rw [Array.getElem?_eq_getElem (by omega)] at po; simpa using po
      have HBB := HBL
      have hNg : gr < N := by rw [← hN]; have := hbk.lt; have := HR1.out.drew.lt; omega
      have h1 := Kh1.out
      have h2 := Kh2.out
      have h3 := Kh3.out
      have k11 := Kk11.out
      have hr := Khr.out
      have g0 := Kg0.out
      refine bodyPost_ret (rstep_results (s := {s with step := 3}) (hgx) HB7.out ((set_getD_far (by decide)).trans q4) ((set_getD_same (by omega)).trans go_)) rfl ?_
      exact rstep_end (N := N) HO.out (by omega) (by omega) HM7.out (by rw [hgs]; exact HBB.out) (by first | (simp [stepF, nowF, lockF, lateF, prevF, precF, agreedF, beginOut, h1, h2, h3, k11, hr, g0]; done) | (simp [stepF, nowF, lockF, lateF, prevF, precF, agreedF, beginOut, h1, h2, h3, k11, hr, g0]; omega) | (simp [stepF, nowF, lockF, lateF, prevF, precF, agreedF, beginOut, h1, h2, h3, k11, hr, g0]; intros; omega))
end Go.Proofs.YtlhnhdkbfkbafaaDoor

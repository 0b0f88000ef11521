/- What this text proves: the contract of the law RoundValid. The conditions are that hashes have 32 bytes, and that the package's empty hash is empty. -/
import Derived.Test.YtlhnhdkbfkbafaaDoorRoundLoop
import Derived.Test.YtlhnhdkbfkbafaaDoorRoundEq
namespace Go.Proofs.YtlhnhdkbfkbafaaDoor
open Go.RowKit
set_option linter.unusedVariables false
set_option linter.unusedSimpArgs false

theorem made_noneV : Tryd.prog.built 23 [] = some (bts zeros).toArray := by kernel_rfl
set_option maxRecDepth 100000 in
set_option maxHeartbeats 16000000 in
theorem valid_any (A : Option Addr) (l : List In) (c : Nat) (w : World) (hl : l.length ≤ c) (hcm : c ≤ maxLen) (hA : Sl w w.heap.size 68 A l.length (l.flatMap In.cells)) (hf : ∀ i ∈ l, i.fits) (hn : None0 w) :
    Calls Tryd.prog 7 #[.slice A l.length c] w fun e w' => e = .returned (.bool true) ∧ Below w.heap.size w w' := by
  have hzs := zero_state
  have hsl := St.cells_len St.new_good
  have hzl := St.cells_len St.zero_good
  have HS := Lib.hid hA
  have HF := Lib.hid hf
  have HN := Lib.hid hn
  have hg0 := hn.size
  clear hA hf hn
  unfold maxLen at hcm
  go_enter Tryd.func7, Tryd.ntmps7
  go_wp2_with fail
  with_reducible refine (new_any w).mono ?_
  rintro e w1 ⟨rfl, hb1⟩
  have HB1 := Lib.hid hb1
  have hs1 := hb1.size
  have hN1 := rangeAt_below HN.out hb1 HN.out.size
  have hR := Bk.new w1 25 St.zero.cells.toArray
  obtain ⟨gs, hgs⟩ : ∃ gs, w1.heap.size = gs := ⟨_, rfl⟩
  rw [hgs] at hR hs1
  have HR := Lib.hid hR
  clear hR hb1 hN1
  go_upto_region 2 with (refine wpList_puts (by rfl) 25 _ _ (by with_reducible rfl) gs 0 (by rfl) (St.new.cells) (by rfl) 25 St.zero.cells (by exact HR.out) 102 hsl (by rw [hzl]; omega) hi_state St.one_cells ?_; intro w7 hb_ hm_ hz_; rw [put_all (by rw [hzl, hsl])] at hb_; have HMw7 := Lib.hid hm_; have HBw7 := Lib.hid hb_; have hz7 := hz_; clear hb_ hm_ hz_)
  have HP7 := Lib.hid (Lp.start HB1.out HN.out hgs HMw7.out HBw7.out St.new_good)
  have hs7 : w7.heap.size = gs + 1 := by rw [hz7]; simp [hgs]
  clear HB1 HR HMw7 HBw7 hgs hz7 hs1
  go_wp2_with fail
  go_loopw [4] (fun i wr => ∃ (k : Nat) (s : St), k ≤ l.length ∧ k ≤ 200 ∧ i = .int .i64 k ∧ Lp w gs s wr ∧ ValidI s) (fun i _ => 200 - (intOf i).toNat)
  case atStart => exact ⟨0, _, by omega, by omega, rfl, HP7.out, ValidI.new⟩
  case round =>
    obtain ⟨k, s, hk1, hk2, rfl, hp, ho⟩ := hrel
    have HP := Lib.hid hp
    have HO := Lib.hid ho
    clear hp ho
    clear HP7 hs7 hzs hsl hzl
    by_cases hlt : k < l.length ∧ k < 200
    · skip
      obtain ⟨h1, h2⟩ := hlt
      have e1 : (k : Int) < (l.length : Int) := by omega
      have e2 : (k : Int) < 200 := by omega
      obtain ⟨i, hi⟩ : ∃ i, l[k]? = some i := ⟨_, List.getElem?_eq_getElem h1⟩
      have HI := Lib.hid hi
      have hfi := HF.out i (List.mem_of_getElem? hi)
      obtain ⟨bA, oA, rfl, hbA, hin⟩ := in_at (HS.out.below HP.out.below) HF.out hi
      have hSt := HP.out.S.all
      have hil := In.cells_len hfi
      have hsl := St.cells_len HP.out.good
      have hgood := HP.out.good
      clear hi
      obtain ⟨⟨t, oo⟩, hto⟩ : ∃ r, stepF s i = r := ⟨_, rfl⟩
      have hw := way_step s i
      have hgt : t.good := by have := stepF_good hgood hfi; rw [hto] at this; exact this
      have hC := fun W hn => step_any s i W hgood hfi hn
      rw [hto] at hw hC
      have hstep := HO.out.step hw
      have HC := Lib.hid hC
      have HSTEP := Lib.hid hstep
      have HWAY := Lib.hid hw
      have htl := St.cells_len hgt
      clear hto hw hC hstep
      have hzs := zero_state
      have hzl := St.cells_len St.zero_good
      obtain ⟨gw, hgw⟩ : ∃ gw, wr.heap.size = gw := ⟨_, rfl⟩
      have hRw := Bk.new wr 25 St.zero.cells.toArray
      rw [hgw] at hRw
      have HRw := Lib.hid hRw
      have HPw := Lib.hid (HP.out.alloc (.cells St.zero.cells.toArray 25))
      have hgl := HP.out.S.lt
      have hgle := HP.out.below.size
      clear hRw
      go_upto_region 6 with (first | (refine wpList_val (by rfl) (run_load_seg 25 _ (by with_reducible rfl) _ _ (by rfl) _ (by assumption) 102 (by assumption) _ Tryd.underlying25 (by rfl) hi_state) ?_) | (refine wpList_puts (by rfl) 25 _ _ (by with_reducible rfl) gw 0 (by rfl) (s.cells) (by rfl) 25 St.zero.cells (by exact HRw.out) 102 hsl (by rw [hzl]; omega) hi_state St.one_cells ?_; intro wb hb_ hm_ hz_; rw [put_all (by rw [hzl, hsl])] at hb_; have HMwb := Lib.hid hm_; have HBwb := Lib.hid hb_; clear hb_ hm_; clear hz_))
      have HPb := Lib.hid (HPw.out.moves HMwb.out (by omega) (by omega))
      have HWb := HBwb
      have hwl := HWb.out.lt
      have hgi : gs < gw := by omega
      have hgi2 : w.heap.size ≤ gw := by omega
      clear HPw HRw HMwb HBwb hgw hzs hzl hSt 
      have hin : wb.rangeAt bA (oA + k * 68) i.cells := by
        obtain ⟨b_, o_, hA_, _, h_⟩ := in_at (HS.out.below HPb.out.below) HF.out HI.out
        cases hA_
        exact h_
      go_upto_region 7 with fail
      have hN := HPb.out.N
      have hgsl := HPb.out.S.lt
      have HIN := Lib.hid ((World.rangeAt_drew _ _ _ _).2 hin)
      have HST := Lib.hid ((World.rangeAt_drew _ _ _ _).2 HPb.out.S.all)
      have HND : Hid (None0 wb.drew) := Lib.hid ((World.rangeAt_drew _ _ _ _).2 hN)
      clear hin hN
      have hix : ∀ W : World, (Instr.indexAt 42 (.slice (some ⟨bA, oA, none⟩) l.length c) (.int .i64 k)).run Tryd.prog W = .ok (.pointer (some ⟨bA, oA + k * 68, none⟩)) W := by
        intro W
        go_simp
      refine wp_region_step (by kernel_rfl) (by kernel_rfl) (by kernel_rfl) (by kernel_rfl) (by decide) (by simp) gs rfl (some ⟨bA, oA, none⟩) l.length c k rfl rfl bA (oA + k * 68) hix _ _ Tryd.underlying25 Tryd.underlying27 rfl rfl 102 68 hi_state hi_input s.cells i.cells hsl hil HST.out HIN.out
        _ Tryd.func10 (by kernel_rfl) (by kernel_rfl) ?_
      with_reducible refine (HC.out _ HND.out).mono ?_
      rintro e w9 ⟨v, rfl, hov, hb9⟩
      have hb9' := drew_b hb9
      refine ⟨t.cells, v, rfl, htl, St.one_cells, (HPb.out.S.below hb9' hgsl).there 0 102 (by omega), ?_⟩
      have HPt := Lib.hid (HPb.out.step hb9' hgt)
      have hmv := step_moves (gs := gs) (t := t) hb9'
      have HWt := Lib.hid (hmv.bk HWb.out (by omega))
      have hov' := hov.moves (Moves.puts (X := fun k _ => k = gs) (g := gs) (fun _ => rfl) t.cells 0 w9) (by simp; omega)
      have hzz : wb.heap.size ≤ (w9.setCells gs 0 t.cells).heap.size := hmv.size
      obtain ⟨wt, hwt⟩ : ∃ wt, w9.setCells gs 0 t.cells = wt := ⟨_, rfl⟩
      rw [hwt] at HPt HWt hov' hzz ⊢
      clear hwt hmv hov hb9 hb9' HND HST HIN hix HP  htl hgsl HC HPb  HWb
      clear HO
      have HVI : Hid (ValidI t) := Lib.hid HSTEP.out.1
      have hvq := HSTEP.out.2.1
      obtain ⟨hqv, hql, hqe⟩ := hvq
      have HQV := Lib.hid hqv
      have HQE := Lib.hid hqe
      have elr : decide (t.vr < t.lr) = false := by simp; omega
      have HELR := Lib.hid elr
      clear hqv hqe hql elr
      have hiB := hfi.block
      have hio := hfi.own
      have hsv := hgood.valid
      have htv := hgt.valid
      have htL := hgt.locked
      have hzl := bts_len zeros
      rw [zeros_len] at hzl
      have hz := zeros_len
      have m1 : (bts t.valid).length = 32 := by rw [bts_len, htv]
      have m2 : (bts t.locked).length = 32 := by rw [bts_len, htL]
      have m3 : (bts s.valid).length = 32 := by rw [bts_len, hsv]
      have m4 : (bts i.block).length = 32 := by rw [bts_len, hiB]
      have m5 : (bts i.own).length = 32 := by rw [bts_len, hio]
      go_upto_block 2 with fail
      go_cut [7] (fun _ wx => Lp w gs t wx ∧ Bk wx gw 25 s.cells.toArray)
      case rest =>
        obtain ⟨hpc, hwc⟩ := hcut
        have HPc := Lib.hid hpc
        have HWc := Lib.hid hwc
        clear hpc hwc hov' HSTEP HPt HWt HWAY
        rcases HQV.out with hv | ⟨hv, hv2, hv3, hv4, hv5⟩
        · skip
          have f1 : (t.vr != s.vr) = false := by simp [hv]
          clear hv
          go_upto_region 17 with fail
          with_reducible refine wp_still_tail 36 (by kernel_rfl) (by kernel_rfl) fun wz hw => ?_
          simp only [List.take_succ_cons, List.take_zero, List.drop_succ_cons, List.drop_zero]
          have HPywz := Lib.hid (show Lp w gs t wz by rw [hw]; exact HPc.out.drew)
          have HWywz : Hid (Bk wz gw 25 s.cells.toArray) := Lib.hid (by rw [hw]; exact HWc.out.drew)
          obtain ⟨t0, _, tL, tlr, tv, tvr, _, _, _⟩ := st_out HPywz.out.S hgt
          obtain ⟨_, _, _, slr, sv, svr, _, _, _⟩ := st_out HWywz.out hgood
          have hiwz : wz.rangeAt bA (oA + k * 68) i.cells := by
            obtain ⟨b_, o_, hA_, _, h_⟩ := in_at (HS.out.below HPywz.out.below) HF.out HI.out
            cases hA_
            exact h_
          have d0 : wz.cell? ⟨bA, oA + k * 68, none⟩ = some (.int .i64 i.kind) := hiwz 0 _ rfl
          have d2 := in_block hiwz
          have d36 := in_own hiwz hfi
          clear hiwz
          clear hw
          ((with_reducible refine wpStill_step (fun K hK => ?_)); go_simp; (with_reducible refine hK _ ?_); clear hK K)
          ((with_reducible refine wpStill_step (fun K hK => ?_)); go_simp; (with_reducible refine hK _ ?_); clear hK K)
          ((with_reducible refine wpStill_step (fun K hK => ?_)); go_simp; (with_reducible refine hK _ ?_); clear hK K)
          ((with_reducible refine wpStill_step (fun K hK => ?_)); go_simp; (with_reducible refine hK _ ?_); clear hK K)
          ((with_reducible refine wpStill_step (fun K hK => ?_)); go_simp; (with_reducible refine hK _ ?_); clear hK K)
          ((with_reducible refine wpStill_step (fun K hK => ?_)); go_simp; (with_reducible refine hK _ ?_); clear hK K)
          ((with_reducible refine wpStill_step (fun K hK => ?_)); go_simp; (with_reducible refine hK _ ?_); clear hK K)
          ((with_reducible refine wpStill_step (fun K hK => ?_)); go_simp; (with_reducible refine hK _ ?_); clear hK K)
          ((with_reducible refine wpStill_step (fun K hK => ?_)); go_simp; (with_reducible refine hK _ ?_); clear hK K)
          ((with_reducible refine wpStill_step (fun K hK => ?_)); go_simp; (with_reducible refine hK _ ?_); clear hK K)
          ((with_reducible refine wpStill_step (fun K hK => ?_)); go_simp; (with_reducible refine hK _ ?_); clear hK K)
          ((with_reducible refine wpStill_step (fun K hK => ?_)); go_simp; (with_reducible refine hK _ ?_); clear hK K)
          ((with_reducible refine wpStill_step (fun K hK => ?_)); go_simp; (rw [if_neg (by intro h_; cases h_)]); (with_reducible refine hK _ ?_); clear hK K)
          ((with_reducible refine wpStill_step (fun K hK => ?_)); go_simp; (rw [if_neg (by intro h_; cases h_)]); (with_reducible refine hK _ ?_); clear hK K)
          ((with_reducible refine wpStill_step (fun K hK => ?_)); go_simp; (rw [if_neg (by intro h_; cases h_)]); (with_reducible refine hK _ ?_); clear hK K)
          ((with_reducible refine wpStill_step (fun K hK => ?_)); go_simp; (rw [if_neg (by intro h_; cases h_)]); (with_reducible refine hK _ ?_); clear hK K)
          ((with_reducible refine wpStill_step (fun K hK => ?_)); go_simp; (rw [if_neg (by intro h_; cases h_)]); (with_reducible refine hK _ ?_); clear hK K)
          ((with_reducible refine wpStill_step (fun K hK => ?_)); go_simp; (rw [if_neg (by intro h_; cases h_)]); (with_reducible refine hK _ ?_); clear hK K)
          ((with_reducible refine wpStill_step (fun K hK => ?_)); go_simp; (with_reducible refine hK _ ?_); clear hK K)
          ((with_reducible refine wpStill_step (fun K hK => ?_)); go_simp; (with_reducible refine hK _ ?_); clear hK K)
          ((with_reducible refine wpStill_step (fun K hK => ?_)); go_simp; (rw [if_neg (by intro h_; cases h_)]); (with_reducible refine hK _ ?_); clear hK K)
          ((with_reducible refine wpStill_step (fun K hK => ?_)); go_simp; (rw [if_neg (by intro h_; cases h_)]); (with_reducible refine hK _ ?_); clear hK K)
          ((with_reducible refine wpStill_step (fun K hK => ?_)); go_simp; (rw [if_neg (by intro h_; cases h_)]); (with_reducible refine hK _ ?_); clear hK K)
          ((with_reducible refine wpStill_step (fun K hK => ?_)); go_simp; (rw [if_neg (by intro h_; cases h_)]); (with_reducible refine hK _ ?_); clear hK K)
          ((with_reducible refine wpStill_step (fun K hK => ?_)); go_simp; (rw [if_neg (by intro h_; cases h_)]); (with_reducible refine hK _ ?_); clear hK K)
          ((with_reducible refine wpStill_step (fun K hK => ?_)); go_simp; (rw [if_neg (by intro h_; cases h_)]); (with_reducible refine hK _ ?_); clear hK K)
          ((with_reducible refine wpStill_step (fun K hK => ?_)); go_simp; (rw [if_neg (by intro h_; cases h_)]); (with_reducible refine hK _ ?_); clear hK K)
          ((with_reducible refine wpStill_step (fun K hK => ?_)); go_simp; (rw [if_neg (by intro h_; cases h_)]); (with_reducible refine hK _ ?_); clear hK K)
          ((with_reducible refine wpStill_step (fun K hK => ?_)); go_simp; (with_reducible refine hK _ ?_); clear hK K)
          ((with_reducible refine wpStill_step (fun K hK => ?_)); go_simp; (with_reducible refine hK _ ?_); clear hK K)
          ((with_reducible refine wpStill_step (fun K hK => ?_)); go_simp; (rw [if_neg (by intro h_; cases h_)]); (with_reducible refine hK _ ?_); clear hK K)
          ((with_reducible refine wpStill_step (fun K hK => ?_)); go_simp; (rw [if_neg (by intro h_; cases h_)]); (with_reducible refine hK _ ?_); clear hK K)
          ((with_reducible refine wpStill_step (fun K hK => ?_)); go_simp; (rw [if_neg (by intro h_; cases h_)]); (with_reducible refine hK _ ?_); clear hK K)
          ((with_reducible refine wpStill_step (fun K hK => ?_)); go_simp; (rw [if_neg (by intro h_; cases h_)]); (with_reducible refine hK _ ?_); clear hK K)
          ((with_reducible refine wpStill_step (fun K hK => ?_)); go_simp; (rw [if_neg (by intro h_; cases h_)]); (with_reducible refine hK _ ?_); clear hK K)
          ((with_reducible refine wpStill_step (fun K hK => ?_)); go_simp; (with_reducible refine hK _ ?_); clear hK K)
          with_reducible refine wpStill_nil ?_
          clear t0 tL tlr tv tvr slr sv svr d0 d2 d36
          obtain ⟨t0, _, tL, tlr, tv, tvr, _, _, _⟩ := st_out HPywz.out.S hgt
          obtain ⟨_, _, _, slr, sv, svr, _, _, _⟩ := st_out HWywz.out hgood
          have elr := HELR.out
          rcases HQE.out with he | ⟨he, he2⟩
          · skip
            have g1 : (t.lr != s.lr) = false := by simp [he]
            clear he
            go_wp2_with fail
            go_roundw
            case rel => exact ⟨k + 1, t, by omega, by omega, by go_num, HPywz.out, HVI.out⟩
            case measure => simp [intOf]; omega
          · skip
            have g1 : (t.lr != s.lr) = true := by simpa using he
            have g2 : (!(t.locked == t.valid)) = false := by simp [he2]
            clear he he2
            go_wp2_with (first | (refine wpList_val (by rfl) (run_load_seg 23 _ (by with_reducible rfl) _ _ (by rfl) _ (by assumption) 32 (by assumption) _ hu_hash (by rfl) hi_hash) ?_) | (refine wpList_val (by rfl) (run_bytes_neq 23 5 _ _ _ (by with_reducible rfl) 32 hu_hash Tryd.underlying5 hs_u8 hm_hash _ _ (by rfl) (by rfl) (by assumption) (by assumption)) ?_))
            go_roundw
            case rel => exact ⟨k + 1, t, by omega, by omega, by go_num, HPywz.out, HVI.out⟩
            case measure => simp [intOf]; omega
        · skip
          have f1 : (t.vr != s.vr) = true := by simpa using hv
          have f2 : (t.vr != t.round) = false := by simp [hv2]
          have f3 : (i.kind != 5) = false := by simp [hv3]
          have f4 : (!(t.valid == i.block)) = false := by simp [hv4]
          have f5 : decide (t.vr < s.vr) = false := by simp; omega
          clear hv hv2 hv3 hv4 hv5
          go_upto_region 17 with fail
          with_reducible refine wp_still_tail 36 (by kernel_rfl) (by kernel_rfl) fun wz hw => ?_
          simp only [List.take_succ_cons, List.take_zero, List.drop_succ_cons, List.drop_zero]
          have HPywz := Lib.hid (show Lp w gs t wz by rw [hw]; exact HPc.out.drew)
          have HWywz : Hid (Bk wz gw 25 s.cells.toArray) := Lib.hid (by rw [hw]; exact HWc.out.drew)
          obtain ⟨t0, _, tL, tlr, tv, tvr, _, _, _⟩ := st_out HPywz.out.S hgt
          obtain ⟨_, _, _, slr, sv, svr, _, _, _⟩ := st_out HWywz.out hgood
          have hiwz : wz.rangeAt bA (oA + k * 68) i.cells := by
            obtain ⟨b_, o_, hA_, _, h_⟩ := in_at (HS.out.below HPywz.out.below) HF.out HI.out
            cases hA_
            exact h_
          have d0 : wz.cell? ⟨bA, oA + k * 68, none⟩ = some (.int .i64 i.kind) := hiwz 0 _ rfl
          have d2 := in_block hiwz
          have d36 := in_own hiwz hfi
          clear hiwz
          clear hw
          ((with_reducible refine wpStill_step (fun K hK => ?_)); go_simp; (with_reducible refine hK _ ?_); clear hK K)
          ((with_reducible refine wpStill_step (fun K hK => ?_)); go_simp; (with_reducible refine hK _ ?_); clear hK K)
          ((with_reducible refine wpStill_step (fun K hK => ?_)); go_simp; (with_reducible refine hK _ ?_); clear hK K)
          ((with_reducible refine wpStill_step (fun K hK => ?_)); go_simp; (with_reducible refine hK _ ?_); clear hK K)
          ((with_reducible refine wpStill_step (fun K hK => ?_)); go_simp; (with_reducible refine hK _ ?_); clear hK K)
          ((with_reducible refine wpStill_step (fun K hK => ?_)); go_simp; (with_reducible refine hK _ ?_); clear hK K)
          ((with_reducible refine wpStill_step (fun K hK => ?_)); go_simp; (with_reducible refine hK _ ?_); clear hK K)
          ((with_reducible refine wpStill_step (fun K hK => ?_)); go_simp; (with_reducible refine hK _ ?_); clear hK K)
          ((with_reducible refine wpStill_step (fun K hK => ?_)); go_simp; (with_reducible refine hK _ ?_); clear hK K)
          ((with_reducible refine wpStill_step (fun K hK => ?_)); go_simp; (with_reducible refine hK _ ?_); clear hK K)
          ((with_reducible refine wpStill_step (fun K hK => ?_)); go_simp; (with_reducible refine hK _ ?_); clear hK K)
          ((with_reducible refine wpStill_step (fun K hK => ?_)); go_simp; (with_reducible refine hK _ ?_); clear hK K)
          ((with_reducible refine wpStill_step (fun K hK => ?_)); go_simp; (with_reducible refine hK _ ?_); clear hK K)
          ((with_reducible refine wpStill_step (fun K hK => ?_)); go_simp; (with_reducible refine hK _ ?_); clear hK K)
          ((with_reducible refine wpStill_step (fun K hK => ?_)); go_simp; (with_reducible refine hK _ ?_); clear hK K)
          ((with_reducible refine wpStill_step (fun K hK => ?_)); go_simp; (with_reducible refine hK _ ?_); clear hK K)
          ((with_reducible refine wpStill_step (fun K hK => ?_)); go_simp; (with_reducible refine hK _ ?_); clear hK K)
          ((with_reducible refine wpStill_step (fun K hK => ?_)); go_simp; (with_reducible refine hK _ ?_); clear hK K)
          ((with_reducible refine wpStill_step (fun K hK => ?_)); go_simp; (with_reducible refine hK _ ?_); clear hK K)
          ((with_reducible refine wpStill_step (fun K hK => ?_)); go_simp; (with_reducible refine hK _ ?_); clear hK K)
          ((with_reducible refine wpStill_step (fun K hK => ?_)); go_simp; (with_reducible refine hK _ ?_); clear hK K)
          ((with_reducible apply wpStill_val); (case hw => rfl); (case hr => exact run_load_seg 23 _ (by rfl) _ _ (by rfl) _ (by assumption) 32 (by assumption) _ hu_hash (by rfl) hi_hash))
          ((with_reducible refine wpStill_step (fun K hK => ?_)); go_simp; (with_reducible refine hK _ ?_); clear hK K)
          ((with_reducible refine wpStill_step (fun K hK => ?_)); go_simp; (with_reducible refine hK _ ?_); clear hK K)
          ((with_reducible refine wpStill_step (fun K hK => ?_)); go_simp; (with_reducible refine hK _ ?_); clear hK K)
          ((with_reducible refine wpStill_step (fun K hK => ?_)); go_simp; (with_reducible refine hK _ ?_); clear hK K)
          ((with_reducible apply wpStill_val); (case hw => rfl); (case hr => exact run_load_seg 23 _ (by rfl) _ _ (by rfl) _ (by assumption) 32 (by assumption) _ hu_hash (by rfl) hi_hash))
          ((with_reducible apply wpStill_val); (case hw => rfl); (case hr => exact run_bytes_neq 23 5 _ _ _ (by rfl) 32 hu_hash Tryd.underlying5 hs_u8 hm_hash _ _ (by rfl) (by rfl) (by assumption) (by assumption)))
          ((with_reducible refine wpStill_step (fun K hK => ?_)); go_simp; (with_reducible refine hK _ ?_); clear hK K)
          ((with_reducible refine wpStill_step (fun K hK => ?_)); go_simp; (with_reducible refine hK _ ?_); clear hK K)
          ((with_reducible refine wpStill_step (fun K hK => ?_)); go_simp; (with_reducible refine hK _ ?_); clear hK K)
          ((with_reducible refine wpStill_step (fun K hK => ?_)); go_simp; (with_reducible refine hK _ ?_); clear hK K)
          ((with_reducible refine wpStill_step (fun K hK => ?_)); go_simp; (with_reducible refine hK _ ?_); clear hK K)
          ((with_reducible refine wpStill_step (fun K hK => ?_)); go_simp; (with_reducible refine hK _ ?_); clear hK K)
          ((with_reducible refine wpStill_step (fun K hK => ?_)); go_simp; (with_reducible refine hK _ ?_); clear hK K)
          ((with_reducible refine wpStill_step (fun K hK => ?_)); go_simp; (with_reducible refine hK _ ?_); clear hK K)
          with_reducible refine wpStill_nil ?_
          clear t0 tL tlr tv tvr slr sv svr d0 d2 d36
          obtain ⟨t0, _, tL, tlr, tv, tvr, _, _, _⟩ := st_out HPywz.out.S hgt
          obtain ⟨_, _, _, slr, sv, svr, _, _, _⟩ := st_out HWywz.out hgood
          have elr := HELR.out
          rcases HQE.out with he | ⟨he, he2⟩
          · skip
            have g1 : (t.lr != s.lr) = false := by simp [he]
            clear he
            go_wp2_with fail
            go_roundw
            case rel => exact ⟨k + 1, t, by omega, by omega, by go_num, HPywz.out, HVI.out⟩
            case measure => simp [intOf]; omega
          · skip
            have g1 : (t.lr != s.lr) = true := by simpa using he
            have g2 : (!(t.locked == t.valid)) = false := by simp [he2]
            clear he he2
            go_wp2_with (first | (refine wpList_val (by rfl) (run_load_seg 23 _ (by with_reducible rfl) _ _ (by rfl) _ (by assumption) 32 (by assumption) _ hu_hash (by rfl) hi_hash) ?_) | (refine wpList_val (by rfl) (run_bytes_neq 23 5 _ _ _ (by with_reducible rfl) 32 hu_hash Tryd.underlying5 hs_u8 hm_hash _ _ (by rfl) (by rfl) (by assumption) (by assumption)) ?_))
            go_roundw
            case rel => exact ⟨k + 1, t, by omega, by omega, by go_num, HPywz.out, HVI.out⟩
            case measure => simp [intOf]; omega
      case first =>
        cases oo with
        | none =>
          have hv : v = .slice none 0 0 := hov'
          subst hv
          clear hov' HSTEP
          go_wp2_with fail
          refine wp_loop_rounds 1 ?_
          rw [rounds_succ]
          go_wp2_with fail
          go_meet
          case rel => exact ⟨HPt.out, HWt.out⟩
        | some o =>
          have hol := way_fits hgood hfi HWAY.out
          obtain ⟨bo, rfl, hbo, hO⟩ := hov'
          obtain ⟨ok, or, ob, ov⟩ := o
          have HQ := Lib.hid HSTEP.out.2.2
          clear HSTEP
          (try simp only at hol)
          have hocl := Out.cells_len (o := ⟨ok, or, ob, ov⟩) hol
          have hzo := zero_out
          have hzol := Out.zero_len
          have hoR := Lib.hid hO.all
          obtain ⟨g9, hg9⟩ : ∃ g9, wt.heap.size = g9 := ⟨_, rfl⟩
          have hR9 := Bk.new wt 45 Out.zero.cells.toArray
          rw [hg9] at hR9
          have HR9 := Lib.hid hR9
          have HP9 := Lib.hid (HPt.out.alloc (.cells Out.zero.cells.toArray 45))
          have HW9 := Lib.hid (HWt.out.alloc (.cells Out.zero.cells.toArray 45))
          have hlW := HWt.out.lt
          have hgsl := HPt.out.S.lt
          clear hR9 hO
          go_wp2_with fail
          refine wp_loop_rounds 2 ?_
          rw [rounds_succ]
          go_upto_region 12 with (first
            | (refine wpList_val (by rfl) (run_load_seg 45 _ (by with_reducible rfl) bo 0 (by rfl) _ hoR.out 35 hocl _ Tryd.underlying45 (by rfl) hi_output) ?_)
            | (refine wpList_puts (by rfl) 45 _ _ (by with_reducible rfl) g9 0 (by rfl) (Out.cells ⟨ok, or, ob, ov⟩) (by rfl) 45 Out.zero.cells (by exact HR9.out) 35 hocl (by rw [hzol]; omega) hi_output Out.one_cells ?_; intro w5 hb_ hm_ hz_; rw [put_all (by rw [hzol, hocl])] at hb_; have HMw5 := Lib.hid hm_; have HBw5 := Lib.hid hb_; clear hb_ hm_; clear hz_))
          have HP5 := Lib.hid (HP9.out.moves HMw5.out (by have := HP9.out.le; omega) (by omega))
          have HW5 := Lib.hid (HMw5.out.bk HW9.out (by omega))
          obtain ⟨o0, o1, o2, o34⟩ := out_out HBw5.out hol
          have HO5 := HBw5
          try simp only at o0 o1 o2 o34
          clear HMw5 HBw5 HR9 hoR HP9 HW9
          have hq0 := HQ.out
          (try simp only at hq0)
          clear HQ HWAY
          rcases hq0 with hk | ⟨hk, hvr, hq⟩
          · skip
            have e3 : (ok != 1) = true := by simpa using hk
            clear hk
            go_wp2_with fail
            rw [rounds_succ]
            go_wp2_with fail
            go_meet
            case rel => exact ⟨HP5.out, HW5.out⟩
          · skip
            (try simp only at hk hvr hq)
            subst hk
            have e3 : ((1 : Int) != 1) = false := by rfl
            have e4 : decide (or ≤ ov) = false := by simp; omega
            clear hvr
            go_wp2_with fail
            rcases hq with ⟨h0, hob, hov⟩ | ⟨h0, hob, hov, hnz⟩
            · skip
              subst hob hov
              have e5 : decide (0 ≤ s.vr) = true := by simpa using h0
              have e6 : decide (s.vr < 0) = false := by simp; omega
              have e7 : (!(s.valid == s.valid)) = false := by simp
              have e8 : (s.vr != s.vr) = false := by simp
              clear h0
              go_upto_region 13 with fail
              with_reducible refine wp_still_tail 36 (by kernel_rfl) (by kernel_rfl) fun wy hw => ?_
              simp only [List.take_succ_cons, List.take_zero, List.drop_succ_cons, List.drop_zero]
              have HPywy := Lib.hid (show Lp w gs t wy by rw [hw]; exact HP5.out.drew)
              have HWywy : Hid (Bk wy gw 25 s.cells.toArray) := Lib.hid (by rw [hw]; exact HW5.out.drew)
              have HOy : Hid (Bk wy g9 45 _) := Lib.hid (by rw [hw]; exact HO5.out.drew)
              clear o0 o1 o2 o34
              obtain ⟨o0, o1, o2, o34⟩ := out_out HOy.out hol
              (try simp only at o0 o1 o2 o34)
              obtain ⟨t0, _, tL, tlr, tv, tvr, _, _, _⟩ := st_out HPywy.out.S hgt
              obtain ⟨_, _, _, slr, sv, svr, _, _, _⟩ := st_out HWywy.out hgood
              have hiwy : wy.rangeAt bA (oA + k * 68) i.cells := by
                obtain ⟨b_, o_, hA_, _, h_⟩ := in_at (HS.out.below HPywy.out.below) HF.out HI.out
                cases hA_
                exact h_
              have d0 : wy.cell? ⟨bA, oA + k * 68, none⟩ = some (.int .i64 i.kind) := hiwy 0 _ rfl
              have d2 := in_block hiwy
              have d36 := in_own hiwy hfi
              clear hiwy
              clear hw
              ((with_reducible refine wpStill_step (fun K hK => ?_)); go_simp; (with_reducible refine hK _ ?_); clear hK K)
              ((with_reducible refine wpStill_step (fun K hK => ?_)); go_simp; (with_reducible refine hK _ ?_); clear hK K)
              ((with_reducible refine wpStill_step (fun K hK => ?_)); go_simp; (with_reducible refine hK _ ?_); clear hK K)
              ((with_reducible refine wpStill_step (fun K hK => ?_)); go_simp; (with_reducible refine hK _ ?_); clear hK K)
              ((with_reducible refine wpStill_step (fun K hK => ?_)); go_simp; (with_reducible refine hK _ ?_); clear hK K)
              ((with_reducible apply wpStill_val); (case hw => rfl); (case hr => exact run_load_seg 23 _ (by rfl) _ _ (by rfl) _ (by assumption) 32 (by assumption) _ hu_hash (by rfl) hi_hash))
              ((with_reducible refine wpStill_step (fun K hK => ?_)); go_simp; (with_reducible refine hK _ ?_); clear hK K)
              ((with_reducible apply wpStill_val); (case hw => rfl); (case hr => exact run_load_seg 23 _ (by rfl) _ _ (by rfl) _ (by assumption) 32 (by assumption) _ hu_hash (by rfl) hi_hash))
              ((with_reducible apply wpStill_val); (case hw => rfl); (case hr => exact run_bytes_neq 23 5 _ _ _ (by rfl) 32 hu_hash Tryd.underlying5 hs_u8 hm_hash _ _ (by rfl) (by rfl) (by assumption) (by assumption)))
              ((with_reducible refine wpStill_step (fun K hK => ?_)); go_simp; (with_reducible refine hK _ ?_); clear hK K)
              ((with_reducible refine wpStill_step (fun K hK => ?_)); go_simp; (with_reducible refine hK _ ?_); clear hK K)
              ((with_reducible refine wpStill_step (fun K hK => ?_)); go_simp; (with_reducible refine hK _ ?_); clear hK K)
              ((with_reducible refine wpStill_step (fun K hK => ?_)); go_simp; (with_reducible refine hK _ ?_); clear hK K)
              ((with_reducible refine wpStill_step (fun K hK => ?_)); go_simp; (with_reducible refine hK _ ?_); clear hK K)
              ((with_reducible refine wpStill_step (fun K hK => ?_)); go_simp; (with_reducible refine hK _ ?_); clear hK K)
              ((with_reducible refine wpStill_step (fun K hK => ?_)); go_simp; (with_reducible refine hK _ ?_); clear hK K)
              ((with_reducible refine wpStill_step (fun K hK => ?_)); go_simp; (with_reducible refine hK _ ?_); clear hK K)
              ((with_reducible refine wpStill_step (fun K hK => ?_)); go_simp; (with_reducible refine hK _ ?_); clear hK K)
              ((with_reducible refine wpStill_step (fun K hK => ?_)); go_simp; (with_reducible refine hK _ ?_); clear hK K)
              ((with_reducible refine wpStill_step (fun K hK => ?_)); go_simp; (with_reducible refine hK _ ?_); clear hK K)
              ((with_reducible refine wpStill_step (fun K hK => ?_)); go_simp; (with_reducible refine hK _ ?_); clear hK K)
              ((with_reducible refine wpStill_step (fun K hK => ?_)); go_simp; (with_reducible refine hK _ ?_); clear hK K)
              ((with_reducible refine wpStill_step (fun K hK => ?_)); go_simp; (with_reducible refine hK _ ?_); clear hK K)
              ((with_reducible refine wpStill_step (fun K hK => ?_)); go_simp; (with_reducible refine hK _ ?_); clear hK K)
              ((with_reducible refine wpStill_step (fun K hK => ?_)); go_simp; (with_reducible refine hK _ ?_); clear hK K)
              ((with_reducible refine wpStill_step (fun K hK => ?_)); go_simp; (with_reducible refine hK _ ?_); clear hK K)
              ((with_reducible refine wpStill_step (fun K hK => ?_)); go_simp; (with_reducible refine hK _ ?_); clear hK K)
              ((with_reducible refine wpStill_step (fun K hK => ?_)); go_simp; (with_reducible refine hK _ ?_); clear hK K)
              ((with_reducible refine wpStill_step (fun K hK => ?_)); go_simp; (with_reducible refine hK _ ?_); clear hK K)
              ((with_reducible refine wpStill_step (fun K hK => ?_)); go_simp; (with_reducible refine hK _ ?_); clear hK K)
              ((with_reducible refine wpStill_step (fun K hK => ?_)); go_simp; (with_reducible refine hK _ ?_); clear hK K)
              ((with_reducible refine wpStill_step (fun K hK => ?_)); go_simp; (rw [if_neg (by intro h_; cases h_)]); (with_reducible refine hK _ ?_); clear hK K)
              ((with_reducible refine wpStill_step (fun K hK => ?_)); go_simp; (rw [if_neg (by intro h_; cases h_)]); (with_reducible refine hK _ ?_); clear hK K)
              ((with_reducible refine wpStill_step (fun K hK => ?_)); go_simp; (rw [if_neg (by intro h_; cases h_)]); (with_reducible refine hK _ ?_); clear hK K)
              ((with_reducible refine wpStill_step (fun K hK => ?_)); go_simp; (with_reducible refine hK _ ?_); clear hK K)
              ((with_reducible refine wpStill_step (fun K hK => ?_)); go_simp; (with_reducible refine hK _ ?_); clear hK K)
              with_reducible refine wpStill_nil ?_
              by_cases hz0 : s.valid = zeros
              · have e9 : (s.valid == zeros) = true := by simpa using hz0
                clear hz0
                go_wp2_with (first | (refine wpList_val (by rfl) (run_load_seg 23 _ (by with_reducible rfl) _ _ (by rfl) _ (by assumption) 32 (by assumption) _ hu_hash (by rfl) hi_hash) ?_) | (refine wpList_val (by rfl) (run_bytes_eql 23 5 _ _ _ (by with_reducible rfl) 32 hu_hash Tryd.underlying5 hs_u8 hm_hash _ _ (by rfl) (by rfl) (by assumption) (by assumption)) ?_) | (refine wpList_val (by rfl) (run_build_at 23 _ (by with_reducible rfl) (bts zeros) (by exact made_noneV)) ?_))
                rw [rounds_succ]
                go_wp2_with fail
                clear t0 tL tlr tv tvr slr sv svr d0 d2 d36
                go_meet
                case rel => exact ⟨HPywy.out, HWywy.out⟩
              · have e9 : (s.valid == zeros) = false := by simpa using hz0
                clear hz0
                go_wp2_with (first | (refine wpList_val (by rfl) (run_load_seg 23 _ (by with_reducible rfl) _ _ (by rfl) _ (by assumption) 32 (by assumption) _ hu_hash (by rfl) hi_hash) ?_) | (refine wpList_val (by rfl) (run_bytes_eql 23 5 _ _ _ (by with_reducible rfl) 32 hu_hash Tryd.underlying5 hs_u8 hm_hash _ _ (by rfl) (by rfl) (by assumption) (by assumption)) ?_) | (refine wpList_val (by rfl) (run_build_at 23 _ (by with_reducible rfl) (bts zeros) (by exact made_noneV)) ?_))
                rw [rounds_succ]
                go_wp2_with fail
                clear t0 tL tlr tv tvr slr sv svr d0 d2 d36
                go_meet
                case rel => exact ⟨HPywy.out, HWywy.out⟩
            · skip
              subst hob hov
              have e5 : decide (0 ≤ s.vr) = false := by simp; omega
              have e6 : decide (s.vr < 0) = true := by simp; omega
              have e7 : (!(i.own == i.own)) = false := by simp
              have e8 : ((-1 : Int) != -1) = false := by rfl
              have e9 : (i.own == zeros) = false := by simpa using hnz
              clear h0 hnz
              go_upto_region 13 with fail
              with_reducible refine wp_still_tail 36 (by kernel_rfl) (by kernel_rfl) fun wy hw => ?_
              simp only [List.take_succ_cons, List.take_zero, List.drop_succ_cons, List.drop_zero]
              have HPywy := Lib.hid (show Lp w gs t wy by rw [hw]; exact HP5.out.drew)
              have HWywy : Hid (Bk wy gw 25 s.cells.toArray) := Lib.hid (by rw [hw]; exact HW5.out.drew)
              have HOy : Hid (Bk wy g9 45 _) := Lib.hid (by rw [hw]; exact HO5.out.drew)
              clear o0 o1 o2 o34
              obtain ⟨o0, o1, o2, o34⟩ := out_out HOy.out hol
              (try simp only at o0 o1 o2 o34)
              obtain ⟨t0, _, tL, tlr, tv, tvr, _, _, _⟩ := st_out HPywy.out.S hgt
              obtain ⟨_, _, _, slr, sv, svr, _, _, _⟩ := st_out HWywy.out hgood
              have hiwy : wy.rangeAt bA (oA + k * 68) i.cells := by
                obtain ⟨b_, o_, hA_, _, h_⟩ := in_at (HS.out.below HPywy.out.below) HF.out HI.out
                cases hA_
                exact h_
              have d0 : wy.cell? ⟨bA, oA + k * 68, none⟩ = some (.int .i64 i.kind) := hiwy 0 _ rfl
              have d2 := in_block hiwy
              have d36 := in_own hiwy hfi
              clear hiwy
              clear hw
              ((with_reducible refine wpStill_step (fun K hK => ?_)); go_simp; (with_reducible refine hK _ ?_); clear hK K)
              ((with_reducible refine wpStill_step (fun K hK => ?_)); go_simp; (with_reducible refine hK _ ?_); clear hK K)
              ((with_reducible refine wpStill_step (fun K hK => ?_)); go_simp; (with_reducible refine hK _ ?_); clear hK K)
              ((with_reducible refine wpStill_step (fun K hK => ?_)); go_simp; (with_reducible refine hK _ ?_); clear hK K)
              ((with_reducible refine wpStill_step (fun K hK => ?_)); go_simp; (with_reducible refine hK _ ?_); clear hK K)
              ((with_reducible refine wpStill_step (fun K hK => ?_)); go_simp; (with_reducible refine hK _ ?_); clear hK K)
              ((with_reducible refine wpStill_step (fun K hK => ?_)); go_simp; (with_reducible refine hK _ ?_); clear hK K)
              ((with_reducible refine wpStill_step (fun K hK => ?_)); go_simp; (with_reducible refine hK _ ?_); clear hK K)
              ((with_reducible refine wpStill_step (fun K hK => ?_)); go_simp; (with_reducible refine hK _ ?_); clear hK K)
              ((with_reducible refine wpStill_step (fun K hK => ?_)); go_simp; (with_reducible refine hK _ ?_); clear hK K)
              ((with_reducible refine wpStill_step (fun K hK => ?_)); go_simp; (rw [if_neg (by intro h_; cases h_)]); (with_reducible refine hK _ ?_); clear hK K)
              ((with_reducible refine wpStill_step (fun K hK => ?_)); go_simp; (rw [if_neg (by intro h_; cases h_)]); (with_reducible refine hK _ ?_); clear hK K)
              ((with_reducible refine wpStill_step (fun K hK => ?_)); go_simp; (rw [if_neg (by intro h_; cases h_)]); (with_reducible refine hK _ ?_); clear hK K)
              ((with_reducible refine wpStill_step (fun K hK => ?_)); go_simp; (rw [if_neg (by intro h_; cases h_)]); (with_reducible refine hK _ ?_); clear hK K)
              ((with_reducible refine wpStill_step (fun K hK => ?_)); go_simp; (rw [if_neg (by intro h_; cases h_)]); (with_reducible refine hK _ ?_); clear hK K)
              ((with_reducible refine wpStill_step (fun K hK => ?_)); go_simp; (with_reducible refine hK _ ?_); clear hK K)
              ((with_reducible refine wpStill_step (fun K hK => ?_)); go_simp; (with_reducible refine hK _ ?_); clear hK K)
              ((with_reducible refine wpStill_step (fun K hK => ?_)); go_simp; (with_reducible refine hK _ ?_); clear hK K)
              ((with_reducible refine wpStill_step (fun K hK => ?_)); go_simp; (with_reducible refine hK _ ?_); clear hK K)
              ((with_reducible refine wpStill_step (fun K hK => ?_)); go_simp; (with_reducible refine hK _ ?_); clear hK K)
              ((with_reducible refine wpStill_step (fun K hK => ?_)); go_simp; (with_reducible refine hK _ ?_); clear hK K)
              ((with_reducible refine wpStill_step (fun K hK => ?_)); go_simp; (with_reducible refine hK _ ?_); clear hK K)
              ((with_reducible refine wpStill_step (fun K hK => ?_)); go_simp; (with_reducible refine hK _ ?_); clear hK K)
              ((with_reducible apply wpStill_val); (case hw => rfl); (case hr => exact run_load_seg 23 _ (by rfl) _ _ (by rfl) _ (by assumption) 32 (by assumption) _ hu_hash (by rfl) hi_hash))
              ((with_reducible refine wpStill_step (fun K hK => ?_)); go_simp; (with_reducible refine hK _ ?_); clear hK K)
              ((with_reducible refine wpStill_step (fun K hK => ?_)); go_simp; (with_reducible refine hK _ ?_); clear hK K)
              ((with_reducible refine wpStill_step (fun K hK => ?_)); go_simp; (with_reducible refine hK _ ?_); clear hK K)
              ((with_reducible refine wpStill_step (fun K hK => ?_)); go_simp; (with_reducible refine hK _ ?_); clear hK K)
              ((with_reducible apply wpStill_val); (case hw => rfl); (case hr => exact run_load_seg 23 _ (by rfl) _ _ (by rfl) _ (by assumption) 32 (by assumption) _ hu_hash (by rfl) hi_hash))
              ((with_reducible apply wpStill_val); (case hw => rfl); (case hr => exact run_bytes_neq 23 5 _ _ _ (by rfl) 32 hu_hash Tryd.underlying5 hs_u8 hm_hash _ _ (by rfl) (by rfl) (by assumption) (by assumption)))
              ((with_reducible refine wpStill_step (fun K hK => ?_)); go_simp; (with_reducible refine hK _ ?_); clear hK K)
              ((with_reducible refine wpStill_step (fun K hK => ?_)); go_simp; (with_reducible refine hK _ ?_); clear hK K)
              ((with_reducible refine wpStill_step (fun K hK => ?_)); go_simp; (with_reducible refine hK _ ?_); clear hK K)
              ((with_reducible refine wpStill_step (fun K hK => ?_)); go_simp; (with_reducible refine hK _ ?_); clear hK K)
              ((with_reducible refine wpStill_step (fun K hK => ?_)); go_simp; (with_reducible refine hK _ ?_); clear hK K)
              ((with_reducible refine wpStill_step (fun K hK => ?_)); go_simp; (with_reducible refine hK _ ?_); clear hK K)
              with_reducible refine wpStill_nil ?_
              go_wp2_with (first | (refine wpList_val (by rfl) (run_load_seg 23 _ (by with_reducible rfl) _ _ (by rfl) _ (by assumption) 32 (by assumption) _ hu_hash (by rfl) hi_hash) ?_) | (refine wpList_val (by rfl) (run_bytes_eql 23 5 _ _ _ (by with_reducible rfl) 32 hu_hash Tryd.underlying5 hs_u8 hm_hash _ _ (by rfl) (by rfl) (by assumption) (by assumption)) ?_) | (refine wpList_val (by rfl) (run_build_at 23 _ (by with_reducible rfl) (bts zeros) (by exact made_noneV)) ?_))
              rw [rounds_succ]
              go_wp2_with fail
              clear t0 tL tlr tv tvr slr sv svr d0 d2 d36
              go_meet
              case rel => exact ⟨HPywy.out, HWywy.out⟩
    · skip
      have hend : Below w.heap.size w wr := HP.out.below
      have HE := Lib.hid hend
      have hNr := Lib.hid HP.out.N
      rcases Nat.lt_or_ge k l.length with h1 | h1
      · have e2 : (k : Int) < (l.length : Int) := by omega
        have h200 : ¬ k < 200 := fun h => hlt ⟨h1, h⟩
        have e3 : decide ((k : Int) < 200) = false := by simp; omega
        clear hlt hend
        go_wp2_with fail
        with_reducible refine (alive_any wr hNr.out).mono ?_
        rintro e w8 ⟨rfl, hb8⟩
        go_wp2_with fail
        go_ret
        exact ⟨rfl, step_b HE.out hb8⟩
      · have e2 : decide ((k : Int) < (l.length : Int)) = false := by simp; omega
        clear hlt hend
        go_wp2_with fail
        with_reducible refine (alive_any wr hNr.out).mono ?_
        rintro e w8 ⟨rfl, hb8⟩
        go_wp2_with fail
        go_ret
        exact ⟨rfl, step_b HE.out hb8⟩
end Go.Proofs.YtlhnhdkbfkbafaaDoor

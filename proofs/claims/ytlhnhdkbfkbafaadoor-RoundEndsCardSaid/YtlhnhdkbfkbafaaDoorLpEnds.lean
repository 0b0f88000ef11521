/- What this text proves: the contract of the law RoundEnds. The conditions are that hashes have 32 bytes, and that the package's empty hash is empty. -/
import Derived.Test.YtlhnhdkbfkbafaaDoorRoundLoop
import Derived.Test.YtlhnhdkbfkbafaaDoorRoundEq
namespace Go.Proofs.YtlhnhdkbfkbafaaDoor
open Go.RowKit
set_option linter.unusedVariables false
set_option linter.unusedSimpArgs false

theorem made_none : Tryd.prog.built 23 [] = some (bts zeros).toArray := by kernel_rfl
theorem run_state_neq {o : Oper} {a : Act} {w : World} (x y : Operand) (ty : TypeId) (ho : o.op = .binOp .neq 25 x y ty) (s t : St) (hs : s.good) (ht : t.good) (hx : a.eval x = .agg s.cells.toArray) (hy : a.eval y = .agg t.cells.toArray) :
    (execOp a.eval o).run Tryd.prog w = .ok (.value (.bool (!(s.same t)))) w := by
  unfold execOp
  simp only [ho, hx, hy, Sem.run_bind, Result.andThen_ok, run_eqGuard_agg (P := Tryd.prog) w .neq 25 x y _ _ (by kernel_rfl), state_neq w s t hs ht, Sem.run_pure]
set_option maxRecDepth 100000 in
set_option maxHeartbeats 16000000 in
theorem ends_any (A : Option Addr) (l : List In) (c : Nat) (w : World) (hl : l.length ≤ c) (hcm : c ≤ maxLen) (hA : Sl w w.heap.size 68 A l.length (l.flatMap In.cells)) (hf : ∀ i ∈ l, i.fits) (hn : None0 w) :
    Calls Tryd.prog 6 #[.slice A l.length c] w fun e w' => e = .returned (.bool true) ∧ Below w.heap.size w w' := by
  have hzs := zero_state
  have hsl := St.cells_len St.new_good
  have hzl := St.cells_len St.zero_good
  have HS := Lib.hid hA
  have HF := Lib.hid hf
  have HN := Lib.hid hn
  have hg0 := hn.size
  clear hA hf hn
  unfold maxLen at hcm
  go_enter Tryd.func6, Tryd.ntmps6
  go_wp2_with fail
  with_reducible refine (new_any w).mono ?_
  rintro e w1 ⟨rfl, hb1⟩
  have HB1 := Lib.hid hb1
  have hs1 := hb1.size
  have hN1 := rangeAt_below HN.out hb1 HN.out.size
  have hR := Bk.new w1 25 St.zero.cells.toArray
  obtain ⟨gs, hgs⟩ : ∃ gs, w1.heap.size = gs := ⟨_, rfl⟩
  rw [hgs] at hR hs1
  have HR := Lib.hid hR
  clear hR hb1 hN1
  go_upto_region 2 with (refine wpList_puts (by rfl) 25 _ _ (by with_reducible rfl) gs 0 (by rfl) (St.new.cells) (by rfl) 25 St.zero.cells (by exact HR.out) 102 hsl (by rw [hzl]; omega) hi_state St.one_cells ?_; intro w7 hb_ hm_ hz_; rw [put_all (by rw [hzl, hsl])] at hb_; have HMw7 := Lib.hid hm_; have HBw7 := Lib.hid hb_; have hz7 := hz_; clear hb_ hm_ hz_)
  have HP7 := Lib.hid (Lp.start HB1.out HN.out hgs HMw7.out HBw7.out St.new_good)
  have hs7 : w7.heap.size = gs + 1 := by rw [hz7]; simp [hgs]
  clear HB1 HR HMw7 HBw7 hgs hz7 hs1
  go_wp2_with fail
  go_loopw [4, 5] (fun dn i wr => ∃ (k : Nat) (s : St) (b : Bool), k ≤ l.length ∧ k ≤ 200 ∧ i = .int .i64 k ∧ dn = .bool b ∧ Lp w gs s wr ∧ EndI s b) (fun _ i _ => 200 - (intOf i).toNat)
  case atStart => exact ⟨0, _, _, by omega, by omega, rfl, rfl, HP7.out, EndI.new⟩
  case round =>
    obtain ⟨k, s, b, hk1, hk2, rfl, rfl, hp, ho⟩ := hrel
    have HP := Lib.hid hp
    have HO := Lib.hid ho
    clear hp ho
    clear HP7 hs7 hzs hsl hzl
    by_cases hlt : k < l.length ∧ k < 200
    · skip
      obtain ⟨h1, h2⟩ := hlt
      have e1 : (k : Int) < (l.length : Int) := by omega
      have e2 : (k : Int) < 200 := by omega
      obtain ⟨i, hi⟩ : ∃ i, l[k]? = some i := ⟨_, List.getElem?_eq_getElem h1⟩
      have HI := Lib.hid hi
      have hfi := HF.out i (List.mem_of_getElem? hi)
      obtain ⟨bA, oA, rfl, hbA, hin⟩ := in_at (HS.out.below HP.out.below) HF.out hi
      have hSt := HP.out.S.all
      have hil := In.cells_len hfi
      have hsl := St.cells_len HP.out.good
      have hgood := HP.out.good
      clear hi
      cases b with
      | true =>
        have h4 := HO.out.d rfl
        have hto := step_done (i := i) h4
        have hgt := hgood
        have hC := fun W hn => step_any s i W hgood hfi hn
        rw [hto] at hC
        have HC := Lib.hid hC
        have htl := hsl
        clear hto hC h4
        obtain ⟨t, ht⟩ : ∃ t, s = t := ⟨_, rfl⟩
        have HT := Lib.hid ht
        clear ht
        have hzs := zero_state
        have hzl := St.cells_len St.zero_good
        obtain ⟨gw, hgw⟩ : ∃ gw, wr.heap.size = gw := ⟨_, rfl⟩
        have hRw := Bk.new wr 25 St.zero.cells.toArray
        rw [hgw] at hRw
        have HRw := Lib.hid hRw
        have HPw := Lib.hid (HP.out.alloc (.cells St.zero.cells.toArray 25))
        have hgl := HP.out.S.lt
        have hgle := HP.out.below.size
        clear hRw
        go_upto_region 7 with (first | (refine wpList_val (by rfl) (run_load_seg 25 _ (by with_reducible rfl) _ _ (by rfl) _ (by assumption) 102 (by assumption) _ Tryd.underlying25 (by rfl) hi_state) ?_) | (refine wpList_puts (by rfl) 25 _ _ (by with_reducible rfl) gw 0 (by rfl) (s.cells) (by rfl) 25 St.zero.cells (by exact HRw.out) 102 hsl (by rw [hzl]; omega) hi_state St.one_cells ?_; intro wb hb_ hm_ hz_; rw [put_all (by rw [hzl, hsl])] at hb_; have HMwb := Lib.hid hm_; have HBwb := Lib.hid hb_; clear hb_ hm_; clear hz_))
        have HPb := Lib.hid (HPw.out.moves HMwb.out (by omega) (by omega))
        have HWb := HBwb
        have hwl := HWb.out.lt
        have hgi : gs < gw := by omega
        have hgi2 : w.heap.size ≤ gw := by omega
        clear HPw HRw HMwb HBwb hgw hzs hzl hSt 
        have hin : wb.rangeAt bA (oA + k * 68) i.cells := by
          obtain ⟨b_, o_, hA_, _, h_⟩ := in_at (HS.out.below HPb.out.below) HF.out HI.out
          cases hA_
          exact h_
        go_upto_region 8 with fail
        have hN := HPb.out.N
        have hgsl := HPb.out.S.lt
        have HIN := Lib.hid ((World.rangeAt_drew _ _ _ _).2 hin)
        have HST := Lib.hid ((World.rangeAt_drew _ _ _ _).2 HPb.out.S.all)
        have HND : Hid (None0 wb.drew) := Lib.hid ((World.rangeAt_drew _ _ _ _).2 hN)
        clear hin hN
        have hix : ∀ W : World, (Instr.indexAt 42 (.slice (some ⟨bA, oA, none⟩) l.length c) (.int .i64 k)).run Tryd.prog W = .ok (.pointer (some ⟨bA, oA + k * 68, none⟩)) W := by
          intro W
          go_simp
        refine wp_region_step (by kernel_rfl) (by kernel_rfl) (by kernel_rfl) (by kernel_rfl) (by decide) (by simp) gs rfl (some ⟨bA, oA, none⟩) l.length c k rfl rfl bA (oA + k * 68) hix _ _ Tryd.underlying25 Tryd.underlying27 rfl rfl 102 68 hi_state hi_input s.cells i.cells hsl hil HST.out HIN.out
          _ Tryd.func10 (by kernel_rfl) (by kernel_rfl) ?_
        with_reducible refine (HC.out _ HND.out).mono ?_
        rintro e w9 ⟨v, rfl, hov, hb9⟩
        have hb9' := drew_b hb9
        refine ⟨s.cells, v, rfl, htl, St.one_cells, (HPb.out.S.below hb9' hgsl).there 0 102 (by omega), ?_⟩
        have HPt := Lib.hid (HPb.out.step hb9' hgt)
        have hmv := step_moves (gs := gs) (t := s) hb9'
        have HWt := Lib.hid (hmv.bk HWb.out (by omega))
        have hov' := hov.moves (Moves.puts (X := fun k _ => k = gs) (g := gs) (fun _ => rfl) s.cells 0 w9) (by simp; omega)
        have hzz : wb.heap.size ≤ (w9.setCells gs 0 s.cells).heap.size := hmv.size
        obtain ⟨wt, hwt⟩ : ∃ wt, w9.setCells gs 0 s.cells = wt := ⟨_, rfl⟩
        rw [hwt] at HPt HWt hov' hzz ⊢
        clear hwt hmv hov hb9 hb9' HND HST HIN hix HP  htl hgsl HC HPb  HWb
        have hv : v = .slice none 0 0 := hov'
        subst hv
        clear hov'
        have hsame : s.same s = true := St.same_iff.2 rfl
        have rt := HPt.out.S.all
        have rw_ := HWt.out.all
        have hsl := St.cells_len hgood
        go_wp2_with (first | (refine wpList_val (by rfl) (run_load_seg 25 _ (by with_reducible rfl) _ _ (by rfl) _ (by assumption) 102 (by assumption) _ Tryd.underlying25 (by rfl) hi_state) ?_) | (refine wpList_val (by rfl) (run_state_neq _ _ _ (by with_reducible rfl) _ _ hgood hgood (by rfl) (by rfl)) ?_))
        refine wp_loop_rounds 1 ?_
        rw [rounds_succ]
        go_wp2_with fail
        go_roundw
        case rel => exact ⟨k + 1, s, true, by omega, by omega, by go_num, rfl, HPt.out, HO.out⟩
        case measure => simp [intOf]; omega
      | false =>
        obtain ⟨⟨t, oo⟩, hto⟩ : ∃ r, stepF s i = r := ⟨_, rfl⟩
        have hw := way_step s i
        have hgt : t.good := by have := stepF_good hgood hfi; rw [hto] at this; exact this
        have hC := fun W hn => step_any s i W hgood hfi hn
        rw [hto] at hw hC
        have hstep := HO.out.step hw
        have HC := Lib.hid hC
        have HSTEP := Lib.hid hstep
        have HWAY := Lib.hid hw
        have htl := St.cells_len hgt
        clear hto hw hC hstep
        have hzs := zero_state
        have hzl := St.cells_len St.zero_good
        obtain ⟨gw, hgw⟩ : ∃ gw, wr.heap.size = gw := ⟨_, rfl⟩
        have hRw := Bk.new wr 25 St.zero.cells.toArray
        rw [hgw] at hRw
        have HRw := Lib.hid hRw
        have HPw := Lib.hid (HP.out.alloc (.cells St.zero.cells.toArray 25))
        have hgl := HP.out.S.lt
        have hgle := HP.out.below.size
        clear hRw
        go_upto_region 7 with (first | (refine wpList_val (by rfl) (run_load_seg 25 _ (by with_reducible rfl) _ _ (by rfl) _ (by assumption) 102 (by assumption) _ Tryd.underlying25 (by rfl) hi_state) ?_) | (refine wpList_puts (by rfl) 25 _ _ (by with_reducible rfl) gw 0 (by rfl) (s.cells) (by rfl) 25 St.zero.cells (by exact HRw.out) 102 hsl (by rw [hzl]; omega) hi_state St.one_cells ?_; intro wb hb_ hm_ hz_; rw [put_all (by rw [hzl, hsl])] at hb_; have HMwb := Lib.hid hm_; have HBwb := Lib.hid hb_; clear hb_ hm_; clear hz_))
        have HPb := Lib.hid (HPw.out.moves HMwb.out (by omega) (by omega))
        have HWb := HBwb
        have hwl := HWb.out.lt
        have hgi : gs < gw := by omega
        have hgi2 : w.heap.size ≤ gw := by omega
        clear HPw HRw HMwb HBwb hgw hzs hzl hSt 
        have hin : wb.rangeAt bA (oA + k * 68) i.cells := by
          obtain ⟨b_, o_, hA_, _, h_⟩ := in_at (HS.out.below HPb.out.below) HF.out HI.out
          cases hA_
          exact h_
        go_upto_region 8 with fail
        have hN := HPb.out.N
        have hgsl := HPb.out.S.lt
        have HIN := Lib.hid ((World.rangeAt_drew _ _ _ _).2 hin)
        have HST := Lib.hid ((World.rangeAt_drew _ _ _ _).2 HPb.out.S.all)
        have HND : Hid (None0 wb.drew) := Lib.hid ((World.rangeAt_drew _ _ _ _).2 hN)
        clear hin hN
        have hix : ∀ W : World, (Instr.indexAt 42 (.slice (some ⟨bA, oA, none⟩) l.length c) (.int .i64 k)).run Tryd.prog W = .ok (.pointer (some ⟨bA, oA + k * 68, none⟩)) W := by
          intro W
          go_simp
        refine wp_region_step (by kernel_rfl) (by kernel_rfl) (by kernel_rfl) (by kernel_rfl) (by decide) (by simp) gs rfl (some ⟨bA, oA, none⟩) l.length c k rfl rfl bA (oA + k * 68) hix _ _ Tryd.underlying25 Tryd.underlying27 rfl rfl 102 68 hi_state hi_input s.cells i.cells hsl hil HST.out HIN.out
          _ Tryd.func10 (by kernel_rfl) (by kernel_rfl) ?_
        with_reducible refine (HC.out _ HND.out).mono ?_
        rintro e w9 ⟨v, rfl, hov, hb9⟩
        have hb9' := drew_b hb9
        refine ⟨t.cells, v, rfl, htl, St.one_cells, (HPb.out.S.below hb9' hgsl).there 0 102 (by omega), ?_⟩
        have HPt := Lib.hid (HPb.out.step hb9' hgt)
        have hmv := step_moves (gs := gs) (t := t) hb9'
        have HWt := Lib.hid (hmv.bk HWb.out (by omega))
        have hov' := hov.moves (Moves.puts (X := fun k _ => k = gs) (g := gs) (fun _ => rfl) t.cells 0 w9) (by simp; omega)
        have hzz : wb.heap.size ≤ (w9.setCells gs 0 t.cells).heap.size := hmv.size
        obtain ⟨wt, hwt⟩ : ∃ wt, w9.setCells gs 0 t.cells = wt := ⟨_, rfl⟩
        rw [hwt] at HPt HWt hov' hzz ⊢
        clear hwt hmv hov hb9 hb9' HND HST HIN hix HP  htl hgsl HC HPb  HWb
        clear HO
        have hzl := bts_len zeros
        rw [zeros_len] at hzl
        have h68 := (st_out HPt.out.S hgt).2.2.2.2.2.2.1
        have hgtb : (bts t.block).length = 32 := by rw [bts_len, hgt.block]
        have hgtB := hgt.block
        have hz := zeros_len
        cases oo with
        | none =>
          have hv : v = .slice none 0 0 := hov'
          subst hv
          have HQ : Hid (EndI t false) := Lib.hid HSTEP.out
          have hbz := HQ.out.n rfl
          have ebz : (!(t.block == zeros)) = false := by simp [hbz]
          clear hov' HSTEP hbz
          go_wp2_with fail
          refine wp_loop_rounds 1 ?_
          rw [rounds_succ]
          go_wp2_with (first | (refine wpList_val (by rfl) (run_load_seg 23 _ (by with_reducible rfl) _ _ (by rfl) _ (by assumption) 32 (by assumption) _ hu_hash (by rfl) hi_hash) ?_) | (refine wpList_val (by rfl) (run_bytes_neq 23 5 _ _ _ (by with_reducible rfl) 32 hu_hash Tryd.underlying5 hs_u8 hm_hash _ _ (by rfl) (by rfl) (by assumption) (by assumption)) ?_) | (refine wpList_val (by rfl) (run_build_at 23 _ (by with_reducible rfl) (bts zeros) (by exact made_none)) ?_))
          go_roundw
          case rel => exact ⟨k + 1, t, false, by omega, by omega, by go_num, rfl, HPt.out, HQ.out⟩
          case measure => simp [intOf]; omega
        | some o =>
          have hol := way_fits hgood hfi HWAY.out
          obtain ⟨bo, rfl, hbo, hO⟩ := hov'
          obtain ⟨ok, or, ob, ov⟩ := o
          obtain ⟨o0, o1, o2, o34⟩ := out_out hO hol
          have HO5 := Lib.hid hO
          (try simp only at hol o0 o1 o2 o34)
          have hq0 := HSTEP.out
          (try simp only at hq0)
          clear HSTEP HWAY hO
          rcases hq0 with ⟨hk, hq⟩ | ⟨hk, hik, hob, htb, hig, hq⟩
          · have hbz := hq.n rfl
            have ebz : (!(t.block == zeros)) = false := by simp [hbz]
            have e3 : (ok == 8) = false := by simpa using hk
            have HQ := Lib.hid hq
            clear hk hq hbz
            go_wp2_with fail
            refine wp_loop_rounds 2 ?_
            rw [rounds_succ]
            go_wp2_with fail
            rw [rounds_succ]
            go_wp2_with (first | (refine wpList_val (by rfl) (run_load_seg 23 _ (by with_reducible rfl) _ _ (by rfl) _ (by assumption) 32 (by assumption) _ hu_hash (by rfl) hi_hash) ?_) | (refine wpList_val (by rfl) (run_bytes_neq 23 5 _ _ _ (by with_reducible rfl) 32 hu_hash Tryd.underlying5 hs_u8 hm_hash _ _ (by rfl) (by rfl) (by assumption) (by assumption)) ?_) | (refine wpList_val (by rfl) (run_build_at 23 _ (by with_reducible rfl) (bts zeros) (by exact made_none)) ?_))
            go_roundw
            case rel => exact ⟨k + 1, t, false, by omega, by omega, by go_num, rfl, HPt.out, HQ.out⟩
            case measure => simp [intOf]; omega
          · (try simp only at hk hob)
            subst hk hob
            have HQ := Lib.hid hq
            clear hq
            have hinX : wt.rangeAt bA (oA + k * 68) i.cells := by
              obtain ⟨b_, o_, hA_, _, h_⟩ := in_at (HS.out.below HPt.out.below) HF.out HI.out
              cases hA_
              exact h_
            have HIX := Lib.hid hinX
            clear hinX HI
            go_wp2_with fail
            refine wp_loop_rounds 2 ?_
            rw [rounds_succ]
            go_upto_region 15 with fail
            have hib : (bts i.block).length = 32 := by rw [bts_len, hfi.block]
            with_reducible refine wp_still_tail 36 (by kernel_rfl) (by kernel_rfl) fun wy hw => ?_
            simp only [List.take_succ_cons, List.take_zero, List.drop_succ_cons, List.drop_zero]
            have hox : wy.rangeAt bo 2 (bts i.block) := by rw [hw]; exact (World.rangeAt_drew _ _ _ _).2 o2
            have h68y : wy.rangeAt gs 68 (bts t.block) := by rw [hw]; exact (World.rangeAt_drew _ _ _ _).2 h68
            have HPy := Lib.hid (show Lp w gs t wy by rw [hw]; exact HPt.out.drew)
            have hiy : wy.rangeAt bA (oA + k * 68) i.cells := by rw [hw]; exact (World.rangeAt_drew _ _ _ _).2 HIX.out
            have d0 : wy.cell? ⟨bA, oA + k * 68, none⟩ = some (.int .i64 i.kind) := hiy 0 _ rfl
            have d2 : wy.rangeAt bA (oA + k * 68 + 2) (bts i.block) := in_block hiy
            have d35 := in_good hiy hfi
            clear hiy o0 o1 o2 o34 h68
            have e5 : (i.kind != 8) = false := by simp [hik]
            have e6 : (!(i.block == i.block)) = false := by simp
            have e7 : (!(t.block == i.block)) = false := by simp [htb]
            rw [hig] at d35
            clear hik hig htb
            have hiB := hfi.block
            clear hw
            ((with_reducible refine wpStill_step (fun K hK => ?_)); go_simp; (with_reducible refine hK _ ?_); clear hK K)
            ((with_reducible refine wpStill_step (fun K hK => ?_)); go_simp; (with_reducible refine hK _ ?_); clear hK K)
            ((with_reducible refine wpStill_step (fun K hK => ?_)); go_simp; (with_reducible refine hK _ ?_); clear hK K)
            ((with_reducible refine wpStill_step (fun K hK => ?_)); go_simp; (with_reducible refine hK _ ?_); clear hK K)
            ((with_reducible refine wpStill_step (fun K hK => ?_)); go_simp; (with_reducible refine hK _ ?_); clear hK K)
            ((with_reducible refine wpStill_step (fun K hK => ?_)); go_simp; (with_reducible refine hK _ ?_); clear hK K)
            ((with_reducible refine wpStill_step (fun K hK => ?_)); go_simp; (with_reducible refine hK _ ?_); clear hK K)
            ((with_reducible refine wpStill_step (fun K hK => ?_)); go_simp; (with_reducible refine hK _ ?_); clear hK K)
            ((with_reducible refine wpStill_step (fun K hK => ?_)); go_simp; (with_reducible refine hK _ ?_); clear hK K)
            ((with_reducible refine wpStill_step (fun K hK => ?_)); go_simp; (with_reducible refine hK _ ?_); clear hK K)
            ((with_reducible refine wpStill_step (fun K hK => ?_)); go_simp; (with_reducible refine hK _ ?_); clear hK K)
            ((with_reducible apply wpStill_val); (case hw => rfl); (case hr => exact run_load_seg 23 _ (by rfl) _ _ (by rfl) _ (by assumption) 32 (by assumption) _ hu_hash (by rfl) hi_hash))
            ((with_reducible refine wpStill_step (fun K hK => ?_)); go_simp; (with_reducible refine hK _ ?_); clear hK K)
            ((with_reducible refine wpStill_step (fun K hK => ?_)); go_simp; (with_reducible refine hK _ ?_); clear hK K)
            ((with_reducible refine wpStill_step (fun K hK => ?_)); go_simp; (with_reducible refine hK _ ?_); clear hK K)
            ((with_reducible refine wpStill_step (fun K hK => ?_)); go_simp; (with_reducible refine hK _ ?_); clear hK K)
            ((with_reducible apply wpStill_val); (case hw => rfl); (case hr => exact run_load_seg 23 _ (by rfl) _ _ (by rfl) _ (by assumption) 32 (by assumption) _ hu_hash (by rfl) hi_hash))
            ((with_reducible apply wpStill_val); (case hw => rfl); (case hr => exact run_bytes_neq 23 5 _ _ _ (by rfl) 32 hu_hash Tryd.underlying5 hs_u8 hm_hash _ _ (by rfl) (by rfl) (by assumption) (by assumption)))
            ((with_reducible refine wpStill_step (fun K hK => ?_)); go_simp; (with_reducible refine hK _ ?_); clear hK K)
            ((with_reducible refine wpStill_step (fun K hK => ?_)); go_simp; (with_reducible refine hK _ ?_); clear hK K)
            ((with_reducible refine wpStill_step (fun K hK => ?_)); go_simp; (with_reducible refine hK _ ?_); clear hK K)
            ((with_reducible apply wpStill_val); (case hw => rfl); (case hr => exact run_load_seg 23 _ (by rfl) _ _ (by rfl) _ (by assumption) 32 (by assumption) _ hu_hash (by rfl) hi_hash))
            ((with_reducible refine wpStill_step (fun K hK => ?_)); go_simp; (with_reducible refine hK _ ?_); clear hK K)
            ((with_reducible refine wpStill_step (fun K hK => ?_)); go_simp; (with_reducible refine hK _ ?_); clear hK K)
            ((with_reducible refine wpStill_step (fun K hK => ?_)); go_simp; (with_reducible refine hK _ ?_); clear hK K)
            ((with_reducible refine wpStill_step (fun K hK => ?_)); go_simp; (with_reducible refine hK _ ?_); clear hK K)
            ((with_reducible apply wpStill_val); (case hw => rfl); (case hr => exact run_load_seg 23 _ (by rfl) _ _ (by rfl) _ (by assumption) 32 (by assumption) _ hu_hash (by rfl) hi_hash))
            ((with_reducible apply wpStill_val); (case hw => rfl); (case hr => exact run_bytes_neq 23 5 _ _ _ (by rfl) 32 hu_hash Tryd.underlying5 hs_u8 hm_hash _ _ (by rfl) (by rfl) (by assumption) (by assumption)))
            ((with_reducible refine wpStill_step (fun K hK => ?_)); go_simp; (with_reducible refine hK _ ?_); clear hK K)
            ((with_reducible refine wpStill_step (fun K hK => ?_)); go_simp; (with_reducible refine hK _ ?_); clear hK K)
            ((with_reducible refine wpStill_step (fun K hK => ?_)); go_simp; (with_reducible refine hK _ ?_); clear hK K)
            ((with_reducible refine wpStill_step (fun K hK => ?_)); go_simp; (with_reducible refine hK _ ?_); clear hK K)
            ((with_reducible refine wpStill_step (fun K hK => ?_)); go_simp; (with_reducible refine hK _ ?_); clear hK K)
            ((with_reducible refine wpStill_step (fun K hK => ?_)); go_simp; (with_reducible refine hK _ ?_); clear hK K)
            ((with_reducible refine wpStill_step (fun K hK => ?_)); go_simp; (with_reducible refine hK _ ?_); clear hK K)
            ((with_reducible refine wpStill_step (fun K hK => ?_)); go_simp; (with_reducible refine hK _ ?_); clear hK K)
            with_reducible refine wpStill_nil ?_
            clear e7 d0 d35 hox
            go_wp2_with fail
            rw [rounds_succ]
            go_wp2_with fail
            go_roundw
            case rel => exact ⟨k + 1, t, true, by omega, by omega, by go_num, rfl, HPy.out, HQ.out⟩
            case measure => simp [intOf]; omega
    · skip
      have hend : Below w.heap.size w wr := HP.out.below
      have HE := Lib.hid hend
      have hNr := Lib.hid HP.out.N
      rcases Nat.lt_or_ge k l.length with h1 | h1
      · have e2 : (k : Int) < (l.length : Int) := by omega
        have h200 : ¬ k < 200 := fun h => hlt ⟨h1, h⟩
        have e3 : decide ((k : Int) < 200) = false := by simp; omega
        clear hlt hend
        go_wp2_with fail
        with_reducible refine (alive_any wr hNr.out).mono ?_
        rintro e w8 ⟨rfl, hb8⟩
        go_wp2_with fail
        go_ret
        exact ⟨rfl, step_b HE.out hb8⟩
      · have e2 : decide ((k : Int) < (l.length : Int)) = false := by simp; omega
        clear hlt hend
        go_wp2_with fail
        with_reducible refine (alive_any wr hNr.out).mono ?_
        rintro e w8 ⟨rfl, hb8⟩
        go_wp2_with fail
        go_ret
        exact ⟨rfl, step_b HE.out hb8⟩
end Go.Proofs.YtlhnhdkbfkbafaaDoor

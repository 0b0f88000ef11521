/- What this text proves: the contract of the law RoundWaits. The conditions are that hashes have 32 bytes, and that the package's empty hash is empty. -/
import Derived.Test.YtlhnhdkbfkbafaaDoorRoundLoop
import Derived.Test.YtlhnhdkbfkbafaaDoorRoundEq
namespace Go.Proofs.YtlhnhdkbfkbafaaDoor
open Go.RowKit
set_option linter.unusedVariables false
set_option linter.unusedSimpArgs false

theorem made_eight : Tryd.prog.built 47 [(0, .int .i64 (-1)), (1, .int .i64 (-1)), (2, .int .i64 (-1)), (3, .int .i64 (-1)), (4, .int .i64 (-1)), (5, .int .i64 (-1)), (6, .int .i64 (-1)), (7, .int .i64 (-1))] = some #[.int .i64 (-1), .int .i64 (-1), .int .i64 (-1), .int .i64 (-1), .int .i64 (-1), .int .i64 (-1), .int .i64 (-1), .int .i64 (-1)] := by kernel_rfl
set_option maxRecDepth 100000 in
set_option maxHeartbeats 16000000 in
theorem waits_any (A : Option Addr) (l : List In) (c : Nat) (w : World) (hl : l.length ≤ c) (hcm : c ≤ maxLen) (hA : Sl w w.heap.size 68 A l.length (l.flatMap In.cells)) (hf : ∀ i ∈ l, i.fits) (hn : None0 w) :
    Calls Tryd.prog 8 #[.slice A l.length c] w fun e w' => e = .returned (.bool true) ∧ Below w.heap.size w w' := by
  have hzs := zero_state
  have hsl := St.cells_len St.new_good
  have hzl := St.cells_len St.zero_good
  have HS := Lib.hid hA
  have HF := Lib.hid hf
  have HN := Lib.hid hn
  have hg0 := hn.size
  clear hA hf hn
  unfold maxLen at hcm
  go_enter Tryd.func8, Tryd.ntmps8
  go_wp2_with fail
  with_reducible refine (new_any w).mono ?_
  rintro e w1 ⟨rfl, hb1⟩
  have HB1 := Lib.hid hb1
  have hs1 := hb1.size
  have hN1 := rangeAt_below HN.out hb1 HN.out.size
  have hR := Bk.new w1 25 St.zero.cells.toArray
  obtain ⟨gs, hgs⟩ : ∃ gs, w1.heap.size = gs := ⟨_, rfl⟩
  rw [hgs] at hR hs1
  have HR := Lib.hid hR
  clear hR hb1 hN1
  go_upto_region 2 with (refine wpList_puts (by rfl) 25 _ _ (by with_reducible rfl) gs 0 (by rfl) (St.new.cells) (by rfl) 25 St.zero.cells (by exact HR.out) 102 hsl (by rw [hzl]; omega) hi_state St.one_cells ?_; intro w7 hb_ hm_ hz_; rw [put_all (by rw [hzl, hsl])] at hb_; have HMw7 := Lib.hid hm_; have HBw7 := Lib.hid hb_; have hz7 := hz_; clear hb_ hm_ hz_)
  have HP7 := Lib.hid (Lp.start HB1.out HN.out hgs HMw7.out HBw7.out St.new_good)
  have hs7 : w7.heap.size = gs + 1 := by rw [hz7]; simp [hgs]
  clear HB1 HR HMw7 HBw7 hgs hz7 hs1
  have h8z := Tryd.zeroValue47
  go_wp2_with (refine wpList_val (by rfl) (run_build_at 47 _ (by with_reducible rfl) [.int .i64 (-1), .int .i64 (-1), .int .i64 (-1), .int .i64 (-1), .int .i64 (-1), .int .i64 (-1), .int .i64 (-1), .int .i64 (-1)] (by exact made_eight)) ?_)
  have hl0 := Bk.new w7 47 #[.int .i64 (-1), .int .i64 (-1), .int .i64 (-1), .int .i64 (-1), .int .i64 (-1), .int .i64 (-1), .int .i64 (-1), .int .i64 (-1)]
  rw [hs7] at hl0
  have HL0 := Lib.hid hl0
  have HP0 := Lib.hid (HP7.out.alloc (.cells #[.int .i64 (-1), .int .i64 (-1), .int .i64 (-1), .int .i64 (-1), .int .i64 (-1), .int .i64 (-1), .int .i64 (-1), .int .i64 (-1)] 47))
  clear hl0 HP7 hs7 hzs hsl hzl
  obtain ⟨wA, hwA⟩ : ∃ wA, w7.alloc (.cells #[.int .i64 (-1), .int .i64 (-1), .int .i64 (-1), .int .i64 (-1), .int .i64 (-1), .int .i64 (-1), .int .i64 (-1), .int .i64 (-1)] 47) = wA := ⟨_, rfl⟩
  rw [hwA] at HL0 HP0 ⊢
  clear hwA
  go_loopw [5] (fun i wr => ∃ (k : Nat) (s : St) (a b c : Int), k ≤ l.length ∧ k ≤ 200 ∧ i = .int .i64 k ∧ Lp w gs s wr ∧ WaitI s a b c ∧ Bk wr (gs + 1) 47 #[.int .i64 (-1), .int .i64 (-1), .int .i64 (-1), .int .i64 (-1), .int .i64 a, .int .i64 b, .int .i64 c, .int .i64 (-1)]) (fun i _ => 200 - (intOf i).toNat)
  case atStart => exact ⟨0, _, _, _, _, by omega, by omega, rfl, HP0.out, WaitI.new, HL0.out⟩
  case round =>
    obtain ⟨k, s, a, b, c', hk1, hk2, rfl, hp, ho, hb⟩ := hrel
    have HP := Lib.hid hp
    have HO := Lib.hid ho
    have HL := Lib.hid hb
    clear hp ho hb
    clear HL0 HP0
    by_cases hlt : k < l.length ∧ k < 200
    · skip
      obtain ⟨h1, h2⟩ := hlt
      have e1 : (k : Int) < (l.length : Int) := by omega
      have e2 : (k : Int) < 200 := by omega
      obtain ⟨i, hi⟩ : ∃ i, l[k]? = some i := ⟨_, List.getElem?_eq_getElem h1⟩
      have HI := Lib.hid hi
      have hfi := HF.out i (List.mem_of_getElem? hi)
      obtain ⟨bA, oA, rfl, hbA, hin⟩ := in_at (HS.out.below HP.out.below) HF.out hi
      have hSt := HP.out.S.all
      have hil := In.cells_len hfi
      have hsl := St.cells_len HP.out.good
      have hgood := HP.out.good
      clear hi
      obtain ⟨⟨t, oo⟩, hto⟩ : ∃ r, stepF s i = r := ⟨_, rfl⟩
      have hw := way_step s i
      have hgt : t.good := by have := stepF_good hgood hfi; rw [hto] at this; exact this
      have hC := fun W hn => step_any s i W hgood hfi hn
      rw [hto] at hw hC
      have hstep := HO.out.step hw
      have HC := Lib.hid hC
      have HSTEP := Lib.hid hstep
      have HWAY := Lib.hid hw
      have htl := St.cells_len hgt
      clear hto hw hC hstep
      have hzs := zero_state
      have hzl := St.cells_len St.zero_good
      obtain ⟨gw, hgw⟩ : ∃ gw, wr.heap.size = gw := ⟨_, rfl⟩
      have hRw := Bk.new wr 25 St.zero.cells.toArray
      rw [hgw] at hRw
      have HRw := Lib.hid hRw
      have HPw := Lib.hid (HP.out.alloc (.cells St.zero.cells.toArray 25))
      have hgl := HP.out.S.lt
      have hgle := HP.out.below.size
      have HLw := Lib.hid (HL.out.alloc (.cells St.zero.cells.toArray 25))
      have hlL := HL.out.lt
      clear hRw
      go_upto_region 7 with (first | (refine wpList_val (by rfl) (run_load_seg 25 _ (by with_reducible rfl) _ _ (by rfl) _ (by assumption) 102 (by assumption) _ Tryd.underlying25 (by rfl) hi_state) ?_) | (refine wpList_puts (by rfl) 25 _ _ (by with_reducible rfl) gw 0 (by rfl) (s.cells) (by rfl) 25 St.zero.cells (by exact HRw.out) 102 hsl (by rw [hzl]; omega) hi_state St.one_cells ?_; intro wb hb_ hm_ hz_; rw [put_all (by rw [hzl, hsl])] at hb_; have HMwb := Lib.hid hm_; have HBwb := Lib.hid hb_; clear hb_ hm_; clear hz_))
      have HPb := Lib.hid (HPw.out.moves HMwb.out (by omega) (by omega))
      have HLb := Lib.hid (HMwb.out.bk HLw.out (by omega))
      have HWb := HBwb
      have hwl := HWb.out.lt
      have hgi : gs < gw := by omega
      have hgi2 : w.heap.size ≤ gw := by omega
      have hgiL : gs + 1 < gw := by omega
      clear HPw HRw HMwb HBwb hgw hzs hzl hSt HLw
      have hin : wb.rangeAt bA (oA + k * 68) i.cells := by
        obtain ⟨b_, o_, hA_, _, h_⟩ := in_at (HS.out.below HPb.out.below) HF.out HI.out
        cases hA_
        exact h_
      go_upto_region 8 with fail
      have hN := HPb.out.N
      have hgsl := HPb.out.S.lt
      have HIN := Lib.hid ((World.rangeAt_drew _ _ _ _).2 hin)
      have HST := Lib.hid ((World.rangeAt_drew _ _ _ _).2 HPb.out.S.all)
      have HND : Hid (None0 wb.drew) := Lib.hid ((World.rangeAt_drew _ _ _ _).2 hN)
      clear hin hN
      have hix : ∀ W : World, (Instr.indexAt 42 (.slice (some ⟨bA, oA, none⟩) l.length c) (.int .i64 k)).run Tryd.prog W = .ok (.pointer (some ⟨bA, oA + k * 68, none⟩)) W := by
        intro W
        go_simp
      refine wp_region_step (by kernel_rfl) (by kernel_rfl) (by kernel_rfl) (by kernel_rfl) (by decide) (by simp) gs rfl (some ⟨bA, oA, none⟩) l.length c k rfl rfl bA (oA + k * 68) hix _ _ Tryd.underlying25 Tryd.underlying27 rfl rfl 102 68 hi_state hi_input s.cells i.cells hsl hil HST.out HIN.out
        _ Tryd.func10 (by kernel_rfl) (by kernel_rfl) ?_
      with_reducible refine (HC.out _ HND.out).mono ?_
      rintro e w9 ⟨v, rfl, hov, hb9⟩
      have hb9' := drew_b hb9
      refine ⟨t.cells, v, rfl, htl, St.one_cells, (HPb.out.S.below hb9' hgsl).there 0 102 (by omega), ?_⟩
      have HPt := Lib.hid (HPb.out.step hb9' hgt)
      have hmv := step_moves (gs := gs) (t := t) hb9'
      have HLt := Lib.hid (hmv.bk HLb.out (by omega))
      have HWt := Lib.hid (hmv.bk HWb.out (by omega))
      have hov' := hov.moves (Moves.puts (X := fun k _ => k = gs) (g := gs) (fun _ => rfl) t.cells 0 w9) (by simp; omega)
      have hzz : wb.heap.size ≤ (w9.setCells gs 0 t.cells).heap.size := hmv.size
      obtain ⟨wt, hwt⟩ : ∃ wt, w9.setCells gs 0 t.cells = wt := ⟨_, rfl⟩
      rw [hwt] at HPt HLt HWt hov' hzz ⊢
      clear hwt hmv hov hb9 hb9' HND HST HIN hix HP HL htl hgsl HC HPb HLb HWb
      clear HO
      cases oo with
      | none =>
        have hv : v = .slice none 0 0 := hov'
        subst hv
        have HQ : Hid (WaitI t a b c') := Lib.hid HSTEP.out
        clear hov' HSTEP
        go_wp2_with fail
        refine wp_loop_rounds 1 ?_
        rw [rounds_succ]
        go_wp2_with fail
        go_roundw
        case rel => exact ⟨k + 1, t, a, b, c', by omega, by omega, by go_num, HPt.out, HQ.out, HLt.out⟩
        case measure => simp [intOf]; omega
      | some o =>
        have hol := way_fits hgood hfi HWAY.out
        obtain ⟨bo, rfl, hbo, hO⟩ := hov'
        obtain ⟨ok, or, ob, ov⟩ := o
        have HQ := Lib.hid HSTEP.out
        clear HSTEP
        (try simp only at hol)
        have hocl := Out.cells_len (o := ⟨ok, or, ob, ov⟩) hol
        have hzo := zero_out
        have hzol := Out.zero_len
        have hoR := Lib.hid hO.all
        obtain ⟨g9, hg9⟩ : ∃ g9, wt.heap.size = g9 := ⟨_, rfl⟩
        have hR9 := Bk.new wt 45 Out.zero.cells.toArray
        rw [hg9] at hR9
        have HR9 := Lib.hid hR9
        have HP9 := Lib.hid (HPt.out.alloc (.cells Out.zero.cells.toArray 45))
        have HL9 := Lib.hid (HLt.out.alloc (.cells Out.zero.cells.toArray 45))
        have hlL := HLt.out.lt
        have HW9 := Lib.hid (HWt.out.alloc (.cells Out.zero.cells.toArray 45))
        have hlW := HWt.out.lt
        have hgsl := HPt.out.S.lt
        clear hR9 hO
        go_wp2_with fail
        refine wp_loop_rounds 2 ?_
        rw [rounds_succ]
        go_upto_region 13 with (first
          | (refine wpList_val (by rfl) (run_load_seg 45 _ (by with_reducible rfl) bo 0 (by rfl) _ hoR.out 35 hocl _ Tryd.underlying45 (by rfl) hi_output) ?_)
          | (refine wpList_puts (by rfl) 45 _ _ (by with_reducible rfl) g9 0 (by rfl) (Out.cells ⟨ok, or, ob, ov⟩) (by rfl) 45 Out.zero.cells (by exact HR9.out) 35 hocl (by rw [hzol]; omega) hi_output Out.one_cells ?_; intro w5 hb_ hm_ hz_; rw [put_all (by rw [hzol, hocl])] at hb_; have HMw5 := Lib.hid hm_; have HBw5 := Lib.hid hb_; clear hb_ hm_; clear hz_))
        have HP5 := Lib.hid (HP9.out.moves HMw5.out (by have := HP9.out.le; omega) (by omega))
        have HL5 := Lib.hid (HMw5.out.bk HL9.out (by omega))
        have HW5 := Lib.hid (HMw5.out.bk HW9.out (by omega))
        obtain ⟨o0, o1, o2, o34⟩ := out_out HBw5.out hol
        have HO5 := HBw5
        try simp only at o0 o1 o2 o34
        clear HMw5 HBw5 HR9 hoR HP9 HL9 HW9
        have hinX : w5.rangeAt bA (oA + k * 68) i.cells := by
          obtain ⟨b_, o_, hA_, _, h_⟩ := in_at (HS.out.below HP5.out.below) HF.out HI.out
          cases hA_
          exact h_
        have d0 : w5.cell? ⟨bA, oA + k * 68, none⟩ = some (.int .i64 i.kind) := hinX 0 _ rfl
        have cr5 := (st_out HP5.out.S hgt).1
        have cw5 := (st_out HW5.out hgood).2.1
        have l4 := HL5.out.cell 4
        have z4 := HL5.out.frozen 4
        have l5 := HL5.out.cell 5
        have z5 := HL5.out.frozen 5
        have l6 := HL5.out.cell 6
        have z6 := HL5.out.frozen 6
        have hq0 := HQ.out
        have hle5 := HP5.out.le
        (try simp only at hq0)
        clear HQ HWAY HI hinX
        rcases hq0 with hq | hq | hq | hq
        · obtain ⟨hk, hq⟩ := hq
          have HQ' := Lib.hid hq
          clear hq
          by_cases h3 : ok < 4
          · have e3 : decide (ok < 4) = true := by simpa using h3
            go_wp2_with fail
            rw [rounds_succ]
            go_wp2_with fail
            go_roundw
            case rel => exact ⟨k + 1, t, a, b, c', by omega, by omega, by go_num, HP5.out, HQ'.out, HL5.out⟩
            case measure => simp [intOf]; omega
          · have e3 : decide (ok < 4) = false := by simpa using h3
            have e4 : decide (6 < ok) = true := by simp; omega
            clear hk
            go_wp2_with fail
            rw [rounds_succ]
            go_wp2_with fail
            go_roundw
            case rel => exact ⟨k + 1, t, a, b, c', by omega, by omega, by go_num, HP5.out, HQ'.out, HL5.out⟩
            case measure => simp [intOf]; omega
        · obtain ⟨hk, hlt, her, hik, hq⟩ := hq
          (try simp only at hk hlt her hik hq)
          subst hk her
          have e3 : decide (t.round ≤ a) = false := by simpa using hlt
          have e4 : (t.round != t.round) = false := by simp
          have e5 : (i.kind != 1) = false := by simp [hik]
          clear hik
          have HQ' := Lib.hid hq
          clear hlt hq
          go_wp2_with fail
          go_quiet (fail)
          go_wp2_with fail
          rw [rounds_succ]
          go_wp2_with fail
          go_roundw
          case rel => exact ⟨k + 1, t, t.round, b, c', by omega, by omega, by go_num, (HP5.out.drewN _).set (by simp; omega) (by simp), HQ'.out, (HL5.out.drewN _).set_ 4 _⟩
          case measure => simp [intOf]; omega
        · obtain ⟨hk, hlt, her, hst, hq⟩ := hq
          (try simp only at hk hlt her hst hq)
          subst hk her
          have e3 : decide (t.round ≤ b) = false := by simpa using hlt
          have e4 : (t.round != t.round) = false := by simp
          have e5 : (s.step != 2) = false := by simp [hst]
          clear hst
          have HQ' := Lib.hid hq
          clear hlt hq
          go_wp2_with fail
          go_quiet (fail)
          go_wp2_with fail
          rw [rounds_succ]
          go_wp2_with fail
          go_roundw
          case rel => exact ⟨k + 1, t, a, t.round, c', by omega, by omega, by go_num, (HP5.out.drewN _).set (by simp; omega) (by simp), HQ'.out, (HL5.out.drewN _).set_ 5 _⟩
          case measure => simp [intOf]; omega
        · obtain ⟨hk, hlt, her, hq⟩ := hq
          (try simp only at hk hlt her hq)
          subst hk her
          have e3 : decide (t.round ≤ c') = false := by simpa using hlt
          have e4 : (t.round != t.round) = false := by simp
          have HQ' := Lib.hid hq
          clear hlt hq
          go_wp2_with fail
          go_quiet (fail)
          go_wp2_with fail
          rw [rounds_succ]
          go_wp2_with fail
          go_roundw
          case rel => exact ⟨k + 1, t, a, b, t.round, by omega, by omega, by go_num, (HP5.out.drewN _).set (by simp; omega) (by simp), HQ'.out, (HL5.out.drewN _).set_ 6 _⟩
          case measure => simp [intOf]; omega
    · skip
      have hend : Below w.heap.size w wr := HP.out.below
      have HE := Lib.hid hend
      have hNr := Lib.hid HP.out.N
      rcases Nat.lt_or_ge k l.length with h1 | h1
      · have e2 : (k : Int) < (l.length : Int) := by omega
        have h200 : ¬ k < 200 := fun h => hlt ⟨h1, h⟩
        have e3 : decide ((k : Int) < 200) = false := by simp; omega
        clear hlt hend
        go_wp2_with fail
        with_reducible refine (alive_any wr hNr.out).mono ?_
        rintro e w8 ⟨rfl, hb8⟩
        go_wp2_with fail
        go_ret
        exact ⟨rfl, step_b HE.out hb8⟩
      · have e2 : decide ((k : Int) < (l.length : Int)) = false := by simp; omega
        clear hlt hend
        go_wp2_with fail
        with_reducible refine (alive_any wr hNr.out).mono ?_
        rintro e w8 ⟨rfl, hb8⟩
        go_wp2_with fail
        go_ret
        exact ⟨rfl, step_b HE.out hb8⟩
end Go.Proofs.YtlhnhdkbfkbafaaDoor

/- What this text proves: the contract of the law RoundOnce. The conditions are that hashes have 32 bytes, and that the package's empty hash is empty. -/
import Derived.Test.YtlhnhdkbfkbafaaDoorRoundLoop
namespace Go.Proofs.YtlhnhdkbfkbafaaDoor
open Go.RowKit
set_option linter.unusedVariables false
set_option linter.unusedSimpArgs false

theorem made_four : Tryd.prog.built 43 [(0, .int .i64 (-1)), (1, .int .i64 (-1)), (2, .int .i64 (-1)), (3, .int .i64 (-1))] = some #[.int .i64 (-1), .int .i64 (-1), .int .i64 (-1), .int .i64 (-1)] := by kernel_rfl

set_option maxRecDepth 100000 in
set_option maxHeartbeats 8000000 in
theorem once_any (A : Option Addr) (l : List In) (c : Nat) (w : World) (hl : l.length ≤ c) (hcm : c ≤ maxLen) (hA : Sl w w.heap.size 68 A l.length (l.flatMap In.cells)) (hf : ∀ i ∈ l, i.fits) (hn : None0 w) :
    Calls Tryd.prog 4 #[.slice A l.length c] w fun e w' => e = .returned (.bool true) ∧ Below w.heap.size w w' := by
  have hzs := zero_state
  have hsl := St.cells_len St.new_good
  have hzl := St.cells_len St.zero_good
  have HS := Lib.hid hA
  have HF := Lib.hid hf
  have HN := Lib.hid hn
  have hg0 := hn.size
  clear hA hf hn
  unfold maxLen at hcm
  go_enter Tryd.func4, Tryd.ntmps4
  go_wp2_with fail
  with_reducible refine (new_any w).mono ?_
  rintro e w1 ⟨rfl, hb1⟩
  have HB1 := Lib.hid hb1
  have hs1 := hb1.size
  have hN1 := rangeAt_below HN.out hb1 HN.out.size
  have hR := Bk.new w1 25 St.zero.cells.toArray
  obtain ⟨gs, hgs⟩ : ∃ gs, w1.heap.size = gs := ⟨_, rfl⟩
  rw [hgs] at hR hs1
  have HR := Lib.hid hR
  have HN1 := Lib.hid (World.rangeAt_alloc hN1 (.cells St.zero.cells.toArray 25))
  clear hR hb1 hN1
  have h4z := Tryd.zeroValue43
  go_upto_region 2 with (refine wpList_puts (by rfl) 25 _ _ (by with_reducible rfl) gs 0 (by rfl) St.new.cells (by rfl) 25 St.zero.cells (by exact HR.out) 102 hsl (by rw [hzl]; omega) hi_state St.one_cells ?_; intro w7 hb7 hm7 hz7; rw [put_all (by rw [hzl, hsl])] at hb7; have HM7 := Lib.hid hm7; have HB7 := Lib.hid hb7; clear hb7 hm7)
  go_wp2_with (refine wpList_val (by rfl) (run_build_at 43 _ (by with_reducible rfl) [.int .i64 (-1), .int .i64 (-1), .int .i64 (-1), .int .i64 (-1)] (by exact made_four)) ?_)
  have hl0 := Bk.new w7 43 #[.int .i64 (-1), .int .i64 (-1), .int .i64 (-1), .int .i64 (-1)]
  rw [show w7.heap.size = gs + 1 from by rw [hz7]; simp [hgs]] at hl0
  have HL0 := Lib.hid hl0
  have HP0 := Lib.hid ((Lp.start HB1.out HN.out hgs HM7.out HB7.out St.new_good).alloc (.cells #[.int .i64 (-1), .int .i64 (-1), .int .i64 (-1), .int .i64 (-1)] 43))
  clear hl0 HB1 HN1 HR HM7 HB7 hgs hz7 hzs hsl hzl
  obtain ⟨wA, hwA⟩ : ∃ wA, w7.alloc (.cells #[.int .i64 (-1), .int .i64 (-1), .int .i64 (-1), .int .i64 (-1)] 43) = wA := ⟨_, rfl⟩
  rw [hwA] at HL0 HP0 ⊢
  clear hwA
  go_loopw [5] (fun i wr => ∃ (k : Nat) (s : St) (a b c : Int), k ≤ l.length ∧ k ≤ 200 ∧ i = .int .i64 k ∧ Lp w gs s wr ∧ OnceI s a b c ∧ Bk wr (gs + 1) 43 #[.int .i64 (-1), .int .i64 a, .int .i64 b, .int .i64 c]) (fun i _ => 200 - (intOf i).toNat)
  case atStart => exact ⟨0, _, _, _, _, by omega, by omega, rfl, HP0.out, OnceI.new, HL0.out⟩
  case round =>
    obtain ⟨k, s, a, b, c', hk1, hk2, rfl, hp, ho, hb⟩ := hrel
    have HP := Lib.hid hp
    have HO := Lib.hid ho
    have HLA := Lib.hid hb
    clear hp ho hb HL0 HP0
    by_cases hlt : k < l.length ∧ k < 200
    · obtain ⟨h1, h2⟩ := hlt
      have e1 : (k : Int) < (l.length : Int) := by omega
      have e2 : (k : Int) < 200 := by omega
      obtain ⟨i, hi⟩ : ∃ i, l[k]? = some i := ⟨_, List.getElem?_eq_getElem h1⟩
      have hfi := HF.out i (List.mem_of_getElem? hi)
      obtain ⟨bA, oA, rfl, hbA, hin⟩ := in_at (HS.out.below HP.out.below) HF.out hi
      have hSt := HP.out.S.all
      have c0 := (st_out HP.out.S HP.out.good).1
      have hil := In.cells_len hfi
      have hsl := St.cells_len HP.out.good
      go_upto_region 8 with fail
      have hN := HP.out.N
      obtain ⟨⟨t, oo⟩, hto⟩ : ∃ r, stepF s i = r := ⟨_, rfl⟩
      have hw := way_step s i
      have hgt : t.good := by have := stepF_good HP.out.good hfi; rw [hto] at this; exact this
      have hC := fun W hn => step_any s i W HP.out.good hfi hn
      rw [hto] at hw hC
      have hstep := HO.out.step hw
      have HC := Lib.hid hC
      have HSTEP := Lib.hid hstep
      have HW := Lib.hid hw
      have htl := St.cells_len hgt
      clear hto hw hC hstep
      have hgsl := HP.out.S.lt
      have hgood := HP.out.good
      have HIN := Lib.hid ((World.rangeAt_drew _ _ _ _).2 hin)
      have HST := Lib.hid ((World.rangeAt_drew _ _ _ _).2 hSt)
      have HND : Hid (None0 wr.drew) := Lib.hid ((World.rangeAt_drew _ _ _ _).2 hN)
      clear hi c0 hin hSt hN
      have hth : wr.there gs 0 102 := HP.out.S.there 0 102 (by omega)
      have HTH := Lib.hid hth
      have hix : ∀ W : World, (Instr.indexAt 42 (.slice (some ⟨bA, oA, none⟩) l.length c) (.int .i64 k)).run Tryd.prog W = .ok (.pointer (some ⟨bA, oA + k * 68, none⟩)) W := by
        intro W
        go_simp
      refine wp_region_step (by kernel_rfl) (by kernel_rfl) (by kernel_rfl) (by kernel_rfl) (by decide) (by simp) gs rfl (some ⟨bA, oA, none⟩) l.length c k rfl rfl bA (oA + k * 68) hix _ _ Tryd.underlying25 Tryd.underlying27 rfl rfl 102 68 hi_state hi_input s.cells i.cells hsl hil HST.out HIN.out
        _ Tryd.func10 (by kernel_rfl) (by kernel_rfl) ?_
      with_reducible refine (HC.out _ HND.out).mono ?_
      rintro e w9 ⟨v, rfl, hov, hb9⟩
      have hb9' := drew_b hb9
      refine ⟨t.cells, v, rfl, htl, St.one_cells, (HP.out.S.below hb9' hgsl).there 0 102 (by omega), ?_⟩
      have HPt := Lib.hid (HP.out.step hb9' hgt)
      have hmv := step_moves (gs := gs) (t := t) hb9'
      have HLt := Lib.hid (hmv.bk HLA.out (by omega))
      have hov' := hov.moves (Moves.puts (X := fun k _ => k = gs) (g := gs) (fun _ => rfl) t.cells 0 w9) (by simp; omega)
      have hzz : wr.heap.size ≤ (w9.setCells gs 0 t.cells).heap.size := hmv.size
      obtain ⟨wt, hwt⟩ : ∃ wt, w9.setCells gs 0 t.cells = wt := ⟨_, rfl⟩
      rw [hwt] at HPt HLt hov' hzz ⊢
      have hlast := HLA.out.lt
      clear hwt hmv hov hb9 hb9' HND HST HIN hth HTH hix HO HP HLA htl hsl hil hgsl HC
      have cr := (st_out HPt.out.S hgt).1
      have hrr : s.round ≤ t.round := HSTEP.out.1
      have er : decide (t.round < s.round) = false := by simpa using hrr
      cases oo with
      | none =>
        have hv : v = .slice none 0 0 := hov'
        subst hv
        have HQ : Hid (OnceI t a b c') := Lib.hid HSTEP.out.2
        clear hov' HSTEP
        go_wp2_with fail
        refine wp_loop_rounds 1 ?_
        rw [rounds_succ]
        go_wp2_with fail
        go_roundw
        case rel => exact ⟨k + 1, t, a, b, c', by omega, by omega, by go_num, HPt.out, HQ.out, HLt.out⟩
        case measure => simp [intOf]; omega
      | some o =>
        have hol := way_fits hgood hfi HW.out
        obtain ⟨bo, rfl, hbo, hO⟩ := hov'
        obtain ⟨ok, or, ob, ov⟩ := o
        have HQ := Lib.hid HSTEP.out.2
        clear HSTEP
        simp only at hol
        have hocl := Out.cells_len (o := ⟨ok, or, ob, ov⟩) hol
        have hzo := zero_out
        have hzol := Out.zero_len
        have hoR := Lib.hid hO.all
        obtain ⟨g9, hg9⟩ : ∃ g9, wt.heap.size = g9 := ⟨_, rfl⟩
        have hR9 := Bk.new wt 45 Out.zero.cells.toArray
        rw [hg9] at hR9
        have HR9 := Lib.hid hR9
        have HP9 := Lib.hid (HPt.out.alloc (.cells Out.zero.cells.toArray 45))
        have HL9 := Lib.hid (HLt.out.alloc (.cells Out.zero.cells.toArray 45))
        have hgsl := HPt.out.S.lt
        have hll := HLt.out.lt
        have HOR := Lib.hid ((Bk.all (Bk.alloc hO (.cells Out.zero.cells.toArray 45))))
        clear hR9 hO
        go_wp2_with fail
        refine wp_loop_rounds 2 ?_
        rw [rounds_succ]
        go_upto_region 15 with (first
          | (refine wpList_val (by rfl) (run_load_seg 45 _ (by with_reducible rfl) bo 0 (by rfl) _ hoR.out 35 hocl _ Tryd.underlying45 (by rfl) hi_output) ?_)
          | (refine wpList_puts (by rfl) 45 _ _ (by with_reducible rfl) g9 0 (by rfl) (Out.cells ⟨ok, or, ob, ov⟩) (by rfl) 45 Out.zero.cells (by exact HR9.out) 35 hocl (by rw [hzol]; omega) hi_output Out.one_cells ?_; intro w5 hb5 hm5 hz5; rw [put_all (by rw [hzol, hocl])] at hb5; have HM5 := Lib.hid hm5; have HB5 := Lib.hid hb5; clear hb5 hm5))
        have hls : gs + 1 ≠ g9 := by omega
        have HP5 := Lib.hid (HP9.out.moves HM5.out (by have := HP9.out.le; omega) (by omega))
        have HL5 := Lib.hid (HM5.out.bk HL9.out hls)
        obtain ⟨o0, o1, _, _⟩ := out_out HB5.out hol
        have cr5 := (st_out HP5.out.S hgt).1
        have l1 := HL5.out.cell 1
        have l2 := HL5.out.cell 2
        have l3 := HL5.out.cell 3
        have z1 := HL5.out.frozen 1
        have z2 := HL5.out.frozen 2
        have z3 := HL5.out.frozen 3
        try simp only at o0 o1
        have hq0 := HQ.out
        try simp only at hq0
        clear HM5 HB5 HR9 HOR hoR HP9 HL9 cr HQ HW
        rcases hq0 with hq | hq | hq | hq
        · obtain ⟨hk, hq⟩ := hq
          have HQ' := Lib.hid hq
          clear hq
          by_cases h3 : 3 < ok
          · have e3 : decide (3 < ok) = true := by simpa using h3
            go_wp2_with fail
            rw [rounds_succ]
            go_wp2_with fail
            go_roundw
            case rel => exact ⟨k + 1, t, a, b, c', by omega, by omega, by go_num, HP5.out, HQ'.out, HL5.out⟩
            case measure => simp [intOf]; omega
          · have e3 : decide (3 < ok) = false := by simpa using h3
            have e4 : decide (ok < 1) = true := by simp; omega
            clear hk
            go_wp2_with fail
            rw [rounds_succ]
            go_wp2_with fail
            go_roundw
            case rel => exact ⟨k + 1, t, a, b, c', by omega, by omega, by go_num, HP5.out, HQ'.out, HL5.out⟩
            case measure => simp [intOf]; omega
        · -- kind 1
          obtain ⟨hk, hlt, her, hq⟩ := hq
          (try simp only at hk hlt her hq)
          subst hk her
          have e3 : decide (t.round ≤ a) = false := by simpa using hlt
          have e4 : (t.round != t.round) = false := by simp
          have HQ' := Lib.hid hq
          clear hlt hq
          go_wp2_with fail
          go_quiet (fail)
          go_wp2_with fail
          rw [rounds_succ]
          go_wp2_with fail
          go_roundw
          case rel => exact ⟨k + 1, t, t.round, b, c', by omega, by omega, by go_num, (HP5.out.drewN _).set (by simp; omega) (by simp), HQ'.out, by first | exact (HL5.out.drewN _).set_ 1 _ | exact HL5.out.set_ 1 _⟩
          case measure => simp [intOf]; omega
        · -- kind 2
          obtain ⟨hk, hlt, her, hq⟩ := hq
          (try simp only at hk hlt her hq)
          subst hk her
          have e3 : decide (t.round ≤ b) = false := by simpa using hlt
          have e4 : (t.round != t.round) = false := by simp
          have HQ' := Lib.hid hq
          clear hlt hq
          go_wp2_with fail
          go_quiet (fail)
          go_wp2_with fail
          rw [rounds_succ]
          go_wp2_with fail
          go_roundw
          case rel => exact ⟨k + 1, t, a, t.round, c', by omega, by omega, by go_num, (HP5.out.drewN _).set (by simp; omega) (by simp), HQ'.out, by first | exact (HL5.out.drewN _).set_ 2 _ | exact HL5.out.set_ 2 _⟩
          case measure => simp [intOf]; omega
        · -- kind 3
          obtain ⟨hk, hlt, her, hq⟩ := hq
          (try simp only at hk hlt her hq)
          subst hk her
          have e3 : decide (t.round ≤ c') = false := by simpa using hlt
          have e4 : (t.round != t.round) = false := by simp
          have HQ' := Lib.hid hq
          clear hlt hq
          go_wp2_with fail
          go_quiet (fail)
          go_wp2_with fail
          rw [rounds_succ]
          go_wp2_with fail
          go_roundw
          case rel => exact ⟨k + 1, t, a, b, t.round, by omega, by omega, by go_num, (HP5.out.drewN _).set (by simp; omega) (by simp), HQ'.out, by first | exact (HL5.out.drewN _).set_ 3 _ | exact HL5.out.set_ 3 _⟩
          case measure => simp [intOf]; omega
    · have hend : Below w.heap.size w wr := HP.out.below
      have HE := Lib.hid hend
      have hNr := Lib.hid HP.out.N
      rcases Nat.lt_or_ge k l.length with h1 | h1
      · have e2 : (k : Int) < (l.length : Int) := by omega
        have h200 : ¬ k < 200 := fun h => hlt ⟨h1, h⟩
        have e3 : decide ((k : Int) < 200) = false := by simp; omega
        clear hlt hend
        go_wp2_with fail
        with_reducible refine (alive_any wr hNr.out).mono ?_
        rintro e w8 ⟨rfl, hb8⟩
        go_wp2_with fail
        go_ret
        exact ⟨rfl, step_b HE.out hb8⟩
      · have e2 : decide ((k : Int) < (l.length : Int)) = false := by simp; omega
        clear hlt hend
        go_wp2_with fail
        with_reducible refine (alive_any wr hNr.out).mono ?_
        rintro e w8 ⟨rfl, hb8⟩
        go_wp2_with fail
        go_ret
        exact ⟨rfl, step_b HE.out hb8⟩
end Go.Proofs.YtlhnhdkbfkbafaaDoor

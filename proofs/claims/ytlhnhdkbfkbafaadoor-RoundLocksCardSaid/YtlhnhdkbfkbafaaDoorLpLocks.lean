/- What this text proves: the contract of the law RoundLocks. The conditions are that hashes have 32 bytes, and that the package's empty hash is empty. -/
import Derived.Test.YtlhnhdkbfkbafaaDoorRoundLoop
import Derived.Test.YtlhnhdkbfkbafaaDoorRoundEq
namespace Go.Proofs.YtlhnhdkbfkbafaaDoor
open Go.RowKit
set_option linter.unusedVariables false
set_option linter.unusedSimpArgs false

theorem made_noneL : Tryd.prog.built 23 [] = some (bts zeros).toArray := by kernel_rfl
theorem zero_hash (w : World) : (zeroValue 23).run Tryd.prog w = .ok (.agg (bts zeros).toArray) w := by
  have h : (Tryd.prog.info? 23).map (·.zero) = some (some (.agg (bts zeros).toArray)) := by kernel_rfl
  cases hq : Tryd.prog.info? 23 with
  | none => rw [hq] at h; cases h
  | some i =>
    rw [hq] at h
    have h2 : i.zero = some (.agg (bts zeros).toArray) := by simpa using h
    simp [zeroValue, typeInfo, hq, h2, Sem.run_bind]
def In.zero : In := ⟨0, 0, zeros, 0, false, zeros⟩
theorem In.zero_len : In.zero.cells.length = 68 := In.cells_len ⟨zeros_len, zeros_len⟩
theorem zero_in (w : World) : (zeroValue 27).run Tryd.prog w = .ok (.agg In.zero.cells.toArray) w := by
  have h : (Tryd.prog.info? 27).map (·.zero) = some (some (.agg In.zero.cells.toArray)) := by kernel_rfl
  cases hq : Tryd.prog.info? 27 with
  | none => rw [hq] at h; cases h
  | some i =>
    rw [hq] at h
    have h2 : i.zero = some (.agg In.zero.cells.toArray) := by simpa using h
    simp [zeroValue, typeInfo, hq, h2, Sem.run_bind]
theorem In.one_cells {i : In} : i.cells.toArray.all (·.oneCell') = true := by
  refine all_oneCell_toArray fun v hv => ?_
  simp only [In.cells, List.mem_cons, List.mem_append, List.not_mem_nil, or_false] at hv
  rcases hv with rfl | rfl | hv | rfl | rfl | hv
  all_goals first | rfl | exact bts_one v hv
theorem bool_val {P : Program} {o : Oper} {a : Act} {w w' : World} {b c : Bool} (h : (execOp a.eval o).run P w = .ok (.value (.bool b)) w') (e : b = c) : (execOp a.eval o).run P w = .ok (.value (.bool c)) w' := e ▸ h
set_option maxRecDepth 100000 in
set_option maxHeartbeats 16000000 in
theorem locks_any (A : Option Addr) (l : List In) (c : Nat) (w : World) (hl : l.length ≤ c) (hcm : c ≤ maxLen) (hA : Sl w w.heap.size 68 A l.length (l.flatMap In.cells)) (hf : ∀ i ∈ l, i.fits) (hn : None0 w) :
    Calls Tryd.prog 5 #[.slice A l.length c] w fun e w' => e = .returned (.bool true) ∧ Below w.heap.size w w' := by
  have hzs := zero_state
  have hsl := St.cells_len St.new_good
  have hzl := St.cells_len St.zero_good
  have HS := Lib.hid hA
  have HF := Lib.hid hf
  have HN := Lib.hid hn
  have hg0 := hn.size
  clear hA hf hn
  unfold maxLen at hcm
  go_enter Tryd.func5, Tryd.ntmps5
  go_wp2_with fail
  with_reducible refine (new_any w).mono ?_
  rintro e w1 ⟨rfl, hb1⟩
  have HB1 := Lib.hid hb1
  have hs1 := hb1.size
  have hN1 := rangeAt_below HN.out hb1 HN.out.size
  have hR := Bk.new w1 25 St.zero.cells.toArray
  obtain ⟨gs, hgs⟩ : ∃ gs, w1.heap.size = gs := ⟨_, rfl⟩
  rw [hgs] at hR hs1
  have HR := Lib.hid hR
  clear hR hb1 hN1
  go_upto_region 2 with (refine wpList_puts (by rfl) 25 _ _ (by with_reducible rfl) gs 0 (by rfl) (St.new.cells) (by rfl) 25 St.zero.cells (by exact HR.out) 102 hsl (by rw [hzl]; omega) hi_state St.one_cells ?_; intro w7 hb_ hm_ hz_; rw [put_all (by rw [hzl, hsl])] at hb_; have HMw7 := Lib.hid hm_; have HBw7 := Lib.hid hb_; have hz7 := hz_; clear hb_ hm_ hz_)
  have HP7 := Lib.hid (Lp.start HB1.out HN.out hgs HMw7.out HBw7.out St.new_good)
  have hs7 : w7.heap.size = gs + 1 := by rw [hz7]; simp [hgs]
  clear HB1 HR HMw7 HBw7 hgs hz7 hs1
  have hzh := zero_hash
  go_wp2_with fail
  have hl0 := Bk.new w7 23 (bts zeros).toArray
  rw [hs7] at hl0
  have HL0 := Lib.hid hl0
  have HP0 := Lib.hid (HP7.out.alloc (.cells (bts zeros).toArray 23))
  clear hl0 HP7 hs7 hzs hsl hzl hzh
  obtain ⟨wA, hwA⟩ : ∃ wA, w7.alloc (.cells (bts zeros).toArray 23) = wA := ⟨_, rfl⟩
  rw [hwA] at HL0 HP0 ⊢
  clear hwA
  go_loopw [5, 6] (fun a i wr => ∃ (k : Nat) (s : St) (L : List UInt8) (at_ : Int), k ≤ l.length ∧ k ≤ 200 ∧ i = .int .i64 k ∧ a = .int .i64 at_ ∧ Lp w gs s wr ∧ LockI s L at_ ∧ L.length = 32 ∧ Bk wr (gs + 1) 23 (bts L).toArray) (fun _ i _ => 200 - (intOf i).toNat)
  case atStart => exact ⟨0, _, _, _, by omega, by omega, rfl, rfl, HP0.out, LockI.new, zeros_len, HL0.out⟩
  case round =>
    obtain ⟨k, s, L, at_, hk1, hk2, rfl, rfl, hp, ho, hLl, hb⟩ := hrel
    have HP := Lib.hid hp
    have HO := Lib.hid ho
    have HL := Lib.hid hb
    clear hp ho hb
    clear HL0 HP0
    by_cases hlt : k < l.length ∧ k < 200
    · skip
      obtain ⟨h1, h2⟩ := hlt
      have e1 : (k : Int) < (l.length : Int) := by omega
      have e2 : (k : Int) < 200 := by omega
      obtain ⟨i, hi⟩ : ∃ i, l[k]? = some i := ⟨_, List.getElem?_eq_getElem h1⟩
      have HI := Lib.hid hi
      have hfi := HF.out i (List.mem_of_getElem? hi)
      obtain ⟨bA, oA, rfl, hbA, hin⟩ := in_at (HS.out.below HP.out.below) HF.out hi
      have hSt := HP.out.S.all
      have hil := In.cells_len hfi
      have hsl := St.cells_len HP.out.good
      have hgood := HP.out.good
      clear hi
      obtain ⟨⟨t, oo⟩, hto⟩ : ∃ r, stepF s i = r := ⟨_, rfl⟩
      have hw := way_step s i
      have hgt : t.good := by have := stepF_good hgood hfi; rw [hto] at this; exact this
      have hC := fun W hn => step_any s i W hgood hfi hn
      rw [hto] at hw hC
      have hstep := HO.out.step hw
      have HC := Lib.hid hC
      have HSTEP := Lib.hid hstep
      have HWAY := Lib.hid hw
      have htl := St.cells_len hgt
      clear hto hw hC hstep
      have hzi := zero_in
      have hzil := In.zero_len
      obtain ⟨gi, hgi⟩ : ∃ gi, wr.heap.size = gi := ⟨_, rfl⟩
      have hRw := Bk.new wr 27 In.zero.cells.toArray
      rw [hgi] at hRw
      have HRw := Lib.hid hRw
      have HPw := Lib.hid (HP.out.alloc (.cells In.zero.cells.toArray 27))
      have HLw := Lib.hid (HL.out.alloc (.cells In.zero.cells.toArray 27))
      have hgl := HP.out.S.lt
      have hgle := HP.out.below.size
      have hlL := HL.out.lt
      clear hRw
      go_upto_region 9 with (first | (refine wpList_val (by rfl) (run_load_seg 27 _ (by with_reducible rfl) bA (oA + k * 68) (by rfl) _ hin 68 hil _ Tryd.underlying27 (by rfl) hi_input) ?_) | (refine wpList_puts (by rfl) 27 _ _ (by with_reducible rfl) gi 0 (by rfl) (i.cells) (by rfl) 27 In.zero.cells (by exact HRw.out) 68 hil (by rw [hzil]; omega) hi_input In.one_cells ?_; intro wb hb_ hm_ hz_; rw [put_all (by rw [hzil, hil])] at hb_; have HMwb := Lib.hid hm_; have HBwb := Lib.hid hb_; clear hb_ hm_; clear hz_))
      have HPb := Lib.hid (HPw.out.moves HMwb.out (by omega) (by omega))
      have HLb := Lib.hid (HMwb.out.bk HLw.out (by omega))
      have HIb := HBwb
      have hil2 := HIb.out.lt
      have hg1 : gs < gi := by omega
      have hg2 : w.heap.size ≤ gi := by omega
      have hg3 : gs + 1 < gi := by omega
      clear HPw HRw HMwb HBwb hgi hSt HLw hin hzi hzil
      have hSt := HPb.out.S.all
      have hIn := HIb.out.all
      have hgsl := HPb.out.S.lt
      have hN := HPb.out.N
      have hNb : Hid (None0 wb) := Lib.hid hN
      clear hN
      go_wp2_with (first | (refine wpList_val (by rfl) (run_load_seg 25 _ (by with_reducible rfl) _ _ (by rfl) _ (by assumption) 102 (by assumption) _ Tryd.underlying25 (by rfl) hi_state) ?_) | (refine wpList_val (by rfl) (run_load_seg 27 _ (by with_reducible rfl) _ _ (by rfl) _ (by assumption) 68 (by assumption) _ Tryd.underlying27 (by rfl) hi_input) ?_))
      with_reducible refine (HC.out _ hNb.out).mono ?_
      rintro e w9 ⟨v, rfl, hov, hb9⟩
      have hS9 := HPb.out.S.below hb9 hgsl
      have HS9 := Lib.hid hS9
      have hzl := hsl
      clear hSt hIn hS9
      have HB9 := Lib.hid hb9
      have HOV := Lib.hid hov
      clear hb9 hov
      go_upto_region 10 with (refine wpList_puts (by rfl) 25 _ _ (by with_reducible rfl) gs 0 (by rfl) t.cells (by rfl) 25 s.cells (by exact HS9.out) 102 htl (by rw [hzl]; omega) hi_state St.one_cells ?_; intro wt hb_ hm_ hz_; rw [put_all (by rw [hzl, htl])] at hb_; have HMt := Lib.hid hm_; have HSt := Lib.hid hb_; clear hb_ hm_ hz_)
      have HPt := Lib.hid (HPb.out.step_to HB9.out HMt.out HSt.out hgt)
      have HLt := Lib.hid (HMt.out.bk (HLb.out.below HB9.out HLb.out.lt) (by omega))
      have HIt := Lib.hid (HMt.out.bk (HIb.out.below HB9.out HIb.out.lt) (by omega))
      have hov := HOV.out.moves HMt.out (by omega)
      have hovz : wb.heap.size ≤ wt.heap.size := Nat.le_trans HB9.out.size HMt.out.size
      clear HOV HMt HSt HB9 HS9 HPb HLb HIb hNb HC HP HO HL htl hzl hgsl hsl
      have hiB := hfi.block
      have m1 : (bts i.block).length = 32 := by rw [bts_len, hiB]
      have m2 : (bts L).length = 32 := by rw [bts_len, hLl]
      have m3 := bts_len zeros
      rw [zeros_len] at m3
      have hz := zeros_len
      cases oo with
      | none =>
        have hv : v = .slice none 0 0 := hov
        subst hv
        have HQ : Hid (LockI t L at_) := Lib.hid HSTEP.out
        clear hov HSTEP
        go_wp2_with fail
        refine wp_loop_rounds 1 ?_
        rw [rounds_succ]
        go_wp2_with fail
        go_roundw
        case rel => exact ⟨k + 1, t, L, at_, by omega, by omega, by go_num, rfl, HPt.out, HQ.out, hLl, HLt.out⟩
        case measure => simp [intOf]; omega
      | some o =>
        have hol := way_fits hgood hfi HWAY.out
        obtain ⟨bo, rfl, hbo, hO⟩ := hov
        obtain ⟨ok, or, ob, ov⟩ := o
        have HQ0 := Lib.hid HSTEP.out
        clear HSTEP
        (try simp only at hol)
        have hocl := Out.cells_len (o := ⟨ok, or, ob, ov⟩) hol
        have hzo := zero_out
        have hzol := Out.zero_len
        have hoR := Lib.hid hO.all
        obtain ⟨g9, hg9⟩ : ∃ g9, wt.heap.size = g9 := ⟨_, rfl⟩
        have hR9 := Bk.new wt 45 Out.zero.cells.toArray
        rw [hg9] at hR9
        have HR9 := Lib.hid hR9
        have HP9 := Lib.hid (HPt.out.alloc (.cells Out.zero.cells.toArray 45))
        have HL9 := Lib.hid (HLt.out.alloc (.cells Out.zero.cells.toArray 45))
        have hlL := HLt.out.lt
        have HI9 := Lib.hid (HIt.out.alloc (.cells Out.zero.cells.toArray 45))
        have hlI := HIt.out.lt
        have hgsl := HPt.out.S.lt
        clear hR9 hO
        go_wp2_with fail
        refine wp_loop_rounds 2 ?_
        rw [rounds_succ]
        go_upto_region 14 with (first
          | (refine wpList_val (by rfl) (run_load_seg 45 _ (by with_reducible rfl) bo 0 (by rfl) _ hoR.out 35 hocl _ Tryd.underlying45 (by rfl) hi_output) ?_)
          | (refine wpList_puts (by rfl) 45 _ _ (by with_reducible rfl) g9 0 (by rfl) (Out.cells ⟨ok, or, ob, ov⟩) (by rfl) 45 Out.zero.cells (by exact HR9.out) 35 hocl (by rw [hzol]; omega) hi_output Out.one_cells ?_; intro w5 hb_ hm_ hz_; rw [put_all (by rw [hzol, hocl])] at hb_; have HMw5 := Lib.hid hm_; have HBw5 := Lib.hid hb_; clear hb_ hm_; clear hz_))
        have HP5 := Lib.hid (HP9.out.moves HMw5.out (by have := HP9.out.le; omega) (by omega))
        have HL5 := Lib.hid (HMw5.out.bk HL9.out (by omega))
        have HI5 := Lib.hid (HMw5.out.bk HI9.out (by omega))
        obtain ⟨o0, o1, o2, o34⟩ := out_out HBw5.out hol
        have HO5 := HBw5
        try simp only at o0 o1 o2 o34
        clear HMw5 HBw5 HR9 hoR HP9 HL9 HI9
        have m4 : (bts ob).length = 32 := by rw [bts_len, hol]
        obtain ⟨d0, d1, d2, d34, d35, _⟩ := in_out HI5.out hfi
        have hL0 : w5.rangeAt (gs + 1) 0 (bts L) := HL5.out.all
        have hq0 := HQ0.out
        (try simp only at hq0)
        clear HQ0 HWAY
        rcases hq0 with ⟨hbz, hq⟩ | ⟨hbz, hq⟩
        · skip
          have e1_ : (ob == zeros) = true := by simpa using hbz
          have HQ := Lib.hid hq
          clear hq hbz
          go_upto_region 15 with (first | (refine wpList_val  (by rfl) (run_load_seg 23 _ (by with_reducible rfl) _ _ (by rfl) _ (by assumption) 32 (by assumption) _ hu_hash (by rfl) hi_hash) ?_) | (refine wpList_val  (by rfl) (run_build_at 23 _ (by with_reducible rfl) (bts zeros) (by exact made_noneL)) ?_) | (refine wpList_val  (by rfl) (bool_val (run_bytes_eql 23 5 _ _ _ (by with_reducible rfl) 32 hu_hash Tryd.underlying5 hs_u8 hm_hash _ _ (by rfl) (by rfl) (by assumption) (by assumption)) (by assumption)) ?_))
          rw [rounds_succ]
          go_wp2_with fail
          go_roundw
          case rel => exact ⟨k + 1, t, L, at_, by omega, by omega, by go_num, rfl, HP5.out, HQ.out, hLl, HL5.out⟩
          case measure => simp [intOf]; omega
        · skip
          have e1_ : (ob == zeros) = false := by simpa using hbz
          clear hbz
          rcases hq with ⟨hk, hik, hir, hib, hig, hq⟩ | ⟨hk, hc, hq⟩ | ⟨hk2, hk3, hq⟩
          · skip
            (try simp only at hk hik hir hib hig hq)
            subst hk
            have HQ := Lib.hid hq
            have e5 : (i.kind != 5) = false := by simp [hik]
            have e6 : (i.round != or) = false := by simp [hir]
            have e7 : (!(i.block == ob)) = false := by simp [hib]
            rw [hig] at d35
            clear hq hik hir hib hig
            have hth := HL5.out
            have HTH := Lib.hid hth
            clear hth
            have hone := bts_one (xs := ob)
            go_upto_region 15 with (first | (refine wpList_val  (by rfl) (run_load_seg 23 _ (by with_reducible rfl) _ _ (by rfl) _ (by assumption) 32 (by assumption) _ hu_hash (by rfl) hi_hash) ?_) | (refine wpList_val  (by rfl) (run_build_at 23 _ (by with_reducible rfl) (bts zeros) (by exact made_noneL)) ?_) | (refine wpList_val  (by rfl) (bool_val (run_bytes_eql 23 5 _ _ _ (by with_reducible rfl) 32 hu_hash Tryd.underlying5 hs_u8 hm_hash _ _ (by rfl) (by rfl) (by assumption) (by assumption)) (by assumption)) ?_))
            go_upto_region 16 with fail
            go_upto_region 18 with (first | (refine wpList_val  (by rfl) (run_load_seg 23 _ (by with_reducible rfl) _ _ (by rfl) _ (by assumption) 32 (by assumption) _ hu_hash (by rfl) hi_hash) ?_) | (refine wpList_val  (by rfl) (bool_val (run_bytes_neq 23 5 _ _ _ (by with_reducible rfl) 32 hu_hash Tryd.underlying5 hs_u8 hm_hash _ _ (by rfl) (by rfl) (by assumption) (by assumption)) (by assumption)) ?_))
            go_upto_region 19 with (first | (first | (refine wpList_val  (by rfl) (run_load_seg 23 _ (by with_reducible rfl) _ _ (by rfl) _ (by assumption) 32 (by assumption) _ hu_hash (by rfl) hi_hash) ?_)) | (refine wpList_puts (by rfl) 23 _ _ (by with_reducible rfl) (gs + 1) 0 (by rfl) (bts ob) (by rfl) 23 (bts L) (by exact HTH.out) 32 m4 (by rw [m2]; omega) hi_hash bts_all ?_; intro w6 hb_ hm_ hz_; rw [put_all (by rw [m2, m4])] at hb_; have HM6 := Lib.hid hm_; have HL6 := Lib.hid hb_; clear hb_ hm_ hz_))
            have hle5 := HP5.out.le
            have HP6 := Lib.hid (HP5.out.moves HM6.out (by omega) (by omega))
            have HO6 := HM6.out.bk HO5.out (by omega)
            clear o0 o1 o2 o34 d0 d1 d2 d34 d35 hL0
            obtain ⟨o0, o1, o2, o34⟩ := out_out HO6 hol
            (try simp only at o0 o1 o2 o34)
            clear HO6 e1_ e5 e6 e7
            go_wp2_with fail
            rw [rounds_succ]
            go_wp2_with fail
            go_roundw
            case rel => exact ⟨k + 1, t, ob, or, by omega, by omega, by go_num, rfl, HP6.out, HQ.out, hol, HL6.out⟩
            case measure => simp [intOf]; omega
          · skip
            (try simp only at hk hc hq)
            subst hk
            have HQ := Lib.hid hq
            clear hq
            by_cases ha : at_ < 0
            · have e5 : decide (0 ≤ at_) = false := by simp; omega
              clear hc ha
              go_upto_region 15 with (first | (refine wpList_val  (by rfl) (run_load_seg 23 _ (by with_reducible rfl) _ _ (by rfl) _ (by assumption) 32 (by assumption) _ hu_hash (by rfl) hi_hash) ?_) | (refine wpList_val  (by rfl) (run_build_at 23 _ (by with_reducible rfl) (bts zeros) (by exact made_noneL)) ?_) | (refine wpList_val  (by rfl) (bool_val (run_bytes_eql 23 5 _ _ _ (by with_reducible rfl) 32 hu_hash Tryd.underlying5 hs_u8 hm_hash _ _ (by rfl) (by rfl) (by assumption) (by assumption)) (by assumption)) ?_))
              go_upto_region 20 with fail
              go_upto_region 12 with fail
              go_wp2_with fail
              rw [rounds_succ]
              go_wp2_with fail
              go_roundw
              case rel => exact ⟨k + 1, t, L, at_, by omega, by omega, by go_num, rfl, HP5.out, HQ.out, hLl, HL5.out⟩
              case measure => simp [intOf]; omega
            · have e5 : decide (0 ≤ at_) = true := by simp; omega
              by_cases hobL : ob = L
              · have e6 : (!(ob == L)) = false := by simp [hobL]
                clear hc ha hobL
                go_upto_region 15 with (first | (refine wpList_val  (by rfl) (run_load_seg 23 _ (by with_reducible rfl) _ _ (by rfl) _ (by assumption) 32 (by assumption) _ hu_hash (by rfl) hi_hash) ?_) | (refine wpList_val  (by rfl) (run_build_at 23 _ (by with_reducible rfl) (bts zeros) (by exact made_noneL)) ?_) | (refine wpList_val  (by rfl) (bool_val (run_bytes_eql 23 5 _ _ _ (by with_reducible rfl) 32 hu_hash Tryd.underlying5 hs_u8 hm_hash _ _ (by rfl) (by rfl) (by assumption) (by assumption)) (by assumption)) ?_))
                go_upto_region 20 with fail
                have tk1 : True := trivial
                have tk2 : True := trivial
                have tk3 : True := trivial
                go_upto_region 12 with (first | (clear tk1; (refine wpList_val  (by rfl) (run_load_seg 23 _ (by with_reducible rfl) _ _ (by rfl) _ (by assumption) 32 (by assumption) _ hu_hash (by rfl) hi_hash) ?_)) | (clear tk2; (refine wpList_val  (by rfl) (run_load_seg 23 _ (by with_reducible rfl) _ _ (by rfl) _ (by assumption) 32 (by assumption) _ hu_hash (by rfl) hi_hash) ?_)) | (clear tk3; (refine wpList_val  (by rfl) (bool_val (run_bytes_neq 23 5 _ _ _ (by with_reducible rfl) 32 hu_hash Tryd.underlying5 hs_u8 hm_hash _ _ (by rfl) (by rfl) (by assumption) (by assumption)) (by assumption)) ?_)))
                go_wp2_with fail
                rw [rounds_succ]
                go_wp2_with fail
                go_roundw
                case rel => exact ⟨k + 1, t, L, at_, by omega, by omega, by go_num, rfl, HP5.out, HQ.out, hLl, HL5.out⟩
                case measure => simp [intOf]; omega
              · have e6 : (!(ob == L)) = true := by simpa using hobL
                obtain ⟨c1, c2, c3, c4⟩ : i.kind = 3 ∧ at_ ≤ i.valid ∧ i.valid < or ∧ i.block = ob := by
                  rcases hc with h | h | h
                  · exact absurd h ha
                  · exact absurd h hobL
                  · exact h
                have e7 : (i.kind != 3) = false := by simp [c1]
                have e8 : decide (i.valid < at_) = false := by simp; omega
                have e9 : decide (or ≤ i.valid) = false := by simp; omega
                have e10 : (!(i.block == ob)) = false := by simp [c4]
                clear hc ha hobL c1 c2 c3 c4
                go_upto_region 15 with (first | (refine wpList_val  (by rfl) (run_load_seg 23 _ (by with_reducible rfl) _ _ (by rfl) _ (by assumption) 32 (by assumption) _ hu_hash (by rfl) hi_hash) ?_) | (refine wpList_val  (by rfl) (run_build_at 23 _ (by with_reducible rfl) (bts zeros) (by exact made_noneL)) ?_) | (refine wpList_val  (by rfl) (bool_val (run_bytes_eql 23 5 _ _ _ (by with_reducible rfl) 32 hu_hash Tryd.underlying5 hs_u8 hm_hash _ _ (by rfl) (by rfl) (by assumption) (by assumption)) (by assumption)) ?_))
                go_upto_region 20 with fail
                go_upto_region 12 with (first | (refine wpList_val  (by rfl) (run_load_seg 23 _ (by with_reducible rfl) _ _ (by rfl) _ (by assumption) 32 (by assumption) _ hu_hash (by rfl) hi_hash) ?_) | (refine wpList_val  (by rfl) (bool_val (run_bytes_neq 23 5 _ _ _ (by with_reducible rfl) 32 hu_hash Tryd.underlying5 hs_u8 hm_hash _ _ (by rfl) (by rfl) (by assumption) (by assumption)) (by assumption)) ?_))
                go_wp2_with fail
                rw [rounds_succ]
                go_wp2_with fail
                go_roundw
                case rel => exact ⟨k + 1, t, L, at_, by omega, by omega, by go_num, rfl, HP5.out, HQ.out, hLl, HL5.out⟩
                case measure => simp [intOf]; omega
          · skip
            (try simp only at hk2 hk3)
            have e5 : (ok == 3) = false := by simpa using hk3
            have e6 : (ok == 2) = false := by simpa using hk2
            have HQ := Lib.hid hq
            clear hq hk2 hk3
            go_upto_region 15 with (first | (refine wpList_val  (by rfl) (run_load_seg 23 _ (by with_reducible rfl) _ _ (by rfl) _ (by assumption) 32 (by assumption) _ hu_hash (by rfl) hi_hash) ?_) | (refine wpList_val  (by rfl) (run_build_at 23 _ (by with_reducible rfl) (bts zeros) (by exact made_noneL)) ?_) | (refine wpList_val  (by rfl) (bool_val (run_bytes_eql 23 5 _ _ _ (by with_reducible rfl) 32 hu_hash Tryd.underlying5 hs_u8 hm_hash _ _ (by rfl) (by rfl) (by assumption) (by assumption)) (by assumption)) ?_))
            go_upto_region 20 with fail
            go_upto_region 12 with fail
            go_wp2_with fail
            rw [rounds_succ]
            go_wp2_with fail
            go_roundw
            case rel => exact ⟨k + 1, t, L, at_, by omega, by omega, by go_num, rfl, HP5.out, HQ.out, hLl, HL5.out⟩
            case measure => simp [intOf]; omega
    · skip
      have hend : Below w.heap.size w wr := HP.out.below
      have HE := Lib.hid hend
      have hNr := Lib.hid HP.out.N
      rcases Nat.lt_or_ge k l.length with h1 | h1
      · have e2 : (k : Int) < (l.length : Int) := by omega
        have h200 : ¬ k < 200 := fun h => hlt ⟨h1, h⟩
        have e3 : decide ((k : Int) < 200) = false := by simp; omega
        clear hlt hend
        go_wp2_with fail
        with_reducible refine (alive_any wr hNr.out).mono ?_
        rintro e w8 ⟨rfl, hb8⟩
        go_wp2_with fail
        go_ret
        exact ⟨rfl, step_b HE.out hb8⟩
      · have e2 : decide ((k : Int) < (l.length : Int)) = false := by simp; omega
        clear hlt hend
        go_wp2_with fail
        with_reducible refine (alive_any wr hNr.out).mono ?_
        rintro e w8 ⟨rfl, hb8⟩
        go_wp2_with fail
        go_ret
        exact ⟨rfl, step_b HE.out hb8⟩
end Go.Proofs.YtlhnhdkbfkbafaaDoor

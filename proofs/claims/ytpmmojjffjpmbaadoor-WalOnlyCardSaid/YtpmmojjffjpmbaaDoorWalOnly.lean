/- What this text proves: the contract of the law WalOnly. The conditions are how the bytes lie in memory, and that the package's table is as its text lays it. -/
import Derived.Test.YtpmmojjffjpmbaaDoorWalScans
import Derived.Deep.RegionLaw
import Derived.Deep.CutBlock
import Derived.Deep.DeepCutAuto
namespace Go.Proofs.YtpmmojjffjpmbaaDoor
open Go.RowKit
set_option linter.unusedVariables false
set_option linter.unusedSimpArgs false

theorem framesF_take_le (l : List (List UInt8)) (j : Nat) : (framesF ckW (l.take j)).length ≤ (framesF ckW l).length := (framesF_take_prefix l j).length_le

set_option maxRecDepth 100000 in
set_option maxHeartbeats 8000000 in
theorem only_walk (A : Option Addr) (l : List UInt8) (c : Nat) (hlc : l.length ≤ c) (hcm : c ≤ maxLen) {w : World} (hA : Sl w w.heap.size 1 A l.length (bts l))
    (A' : Option Addr) (l' : List UInt8) (c' : Nat) (hlc' : l'.length ≤ c') (hcm' : c' ≤ maxLen) (hA' : Sl w w.heap.size 1 A' l'.length (bts l')) (_ : World) (hr : Roots w ∧ 0 < w.heap.size) :
    Calls Tryd.prog 4 #[.slice A l.length c, .slice A' l'.length c'] w fun e w' => e = .returned (.bool true) ∧ Below w.heap.size w w' := by
  obtain ⟨i0, hi, hz0, hz1, hz2⟩ := info_parts u8_info
  have h0 := hr.2
  have HR := Lib.hid hr.1
  have HA := Lib.hid hA
  have HA' := Lib.hid hA'
  obtain ⟨L, hL⟩ : ∃ L, l.length = L := ⟨_, rfl⟩
  obtain ⟨L', hL'⟩ : ∃ L, l'.length = L := ⟨_, rfl⟩
  rw [hL] at hlc HA ⊢
  rw [hL'] at hlc' HA' ⊢
  have HL := Lib.hid hL
  have HL' := Lib.hid hL'
  unfold maxLen at hcm hcm'
  clear hr hA hL hA' hL'
  by_cases hbig : 20000 < L
  · have e0 : decide (20000 < (L : Int)) = true := by simp; omega
    go_enter Tryd.func4, Tryd.ntmps4
    go_wp2_with fail
    with_reducible refine (walive_any w HR.out h0).mono ?_
    rintro e w1 ⟨rfl, hb⟩
    have HB := Lib.hid hb
    clear hb
    go_wp2_with fail
    go_ret
    exact ⟨rfl, HB.out⟩
  have e0 : decide (20000 < (L : Int)) = false := by simp; omega
  by_cases hbig' : 5000 < L'
  · have e1 : decide (5000 < (L' : Int)) = true := by simp; omega
    go_enter Tryd.func4, Tryd.ntmps4
    go_wp2_with fail
    with_reducible refine (walive_any w HR.out h0).mono ?_
    rintro e w1 ⟨rfl, hb⟩
    have HB := Lib.hid hb
    clear hb
    go_wp2_with fail
    go_ret
    exact ⟨rfl, HB.out⟩
  have e1 : decide (5000 < (L' : Int)) = false := by simp; omega
  have hsc := scan_any A l c w HR.out h0 (by rw [HL.out]; exact hlc) (by unfold maxLen; omega) (by rw [HL.out]; omega) (by rw [HL.out]; exact HA.out)
  rw [HL.out] at hsc
  obtain ⟨X, hX⟩ : ∃ X, (framesF ckW (scanW ckW l)).length = X := ⟨_, rfl⟩
  have hXL : X ≤ L := by rw [← hX, ← HL.out]; exact (scanW_take l).2
  rw [hX] at hsc
  have HX := Lib.hid hX
  have HSC := Lib.hid hsc
  clear hX hsc
  go_enter Tryd.func4, Tryd.ntmps4
  go_wp2_with fail
  with_reducible refine HSC.out.mono ?_
  rintro e w1 ⟨v1, l1, rfl, hr1, hd1, hb1⟩
  obtain ⟨K, hK⟩ : ∃ K, l1.length = K := ⟨_, rfl⟩
  have hKX : K ≤ X := by
    have := tot_len l1
    rw [tot, hd1, HX.out] at this
    omega
  obtain ⟨A1, c1, rfl, hc11, hc12, hs1, hg1⟩ := recs_slice hr1 hK
  have HK := Lib.hid hK
  have HS1 := Lib.hid hs1
  have HG1 := Lib.hid hg1
  have HD1 := Lib.hid hd1
  have L1 := Lib.hid hb1
  have q1 : decide ((X : Int) < 0) = false := by simp
  have q2 : decide ((L : Int) < (X : Int)) = false := by simp; omega
  unfold maxLen at hc12
  have hz1' := hb1.size
  clear hr1 hd1 hb1 hK hs1 hg1 HSC
  go_wp2_with fail
  with_reducible refine (tnew_any w1).mono ?_
  rintro e w2 ⟨rfl, hb2, hlt2, ht2⟩
  obtain ⟨B, hB⟩ : ∃ B, w1.heap.size = B := ⟨_, rfl⟩
  rw [hB] at hb2 hlt2 ht2 hz1' ⊢
  have HBB := Lib.hid hB
  have HT2 := Lib.hid ht2
  have L2 := Lib.hid hb2
  have hBw : 0 < B := by omega
  have HRB := Lib.hid (fun (W : World) (h : Below B w1 W) => (HR.out.below L1.out h0).below h hBw)
  clear hB hb2 ht2
  go_wp2_with fail
  with_reducible refine (open_any HT2.out (by simp) (HRB.out w2 L2.out) (by omega)).mono ?_
  intro e w3 hd
  obtain ⟨lp, sv3, rv3, l3, rfl, hlp, hl3, hd3, hk3, hb3, _⟩ := op_kept (B := B) ⟨Nat.le_refl _, fun k h => by cases h⟩ (by omega) hd
  rw [show scanW ckW ([] : List UInt8) = [] from rfl] at hl3 hd3
  have hl30 : l3.length = 0 := dat_len hd3
  have HG3 := Lib.hid hl3
  have HK3 := Lib.hid hk3
  have L3 := Lib.hid (L2.out.trans hb3)
  have HD3 := Lib.hid hd3
  clear hd hl3 hd3 hk3 hb3 L2 HT2
  go_wp2_with fail
  go_loopw [10] (fun i wr => ∃ (k : Nat) (sv rv : Value) (st : List (List UInt8 × Nat)) (lr : List Part), k ≤ K ∧ i = .int .i64 k ∧ LogAt wr lp B sv rv ([], 0) (framesF ckW ((scanW ckW l).take k), 0) st lr l3.length ∧ lr.length = k ∧ st.length = k + 1 ∧ KeptL B lp B sv rv ∧ Below B w1 wr) (fun i _ => K - (intOf i).toNat)
  case atStart => exact ⟨0, sv3, rv3, _, l3, by omega, rfl, HG3.out, hl30, rfl, HK3.out, L3.out⟩
  case round =>
    obtain ⟨k, sv, rv, st, lr, hk, rfl, hlog, hlr, hst, hkp, hbel⟩ := hrel
    have HLG := Lib.hid hlog
    have HKP := Lib.hid hkp
    have HBL := Lib.hid hbel
    have HLR := Lib.hid hlr
    have hzB : B ≤ wr.heap.size := by have := hbel.size; rw [HBB.out] at this; exact this
    clear hlog hkp hbel hlr HG3 HK3 L3
    by_cases hlt : k < K
    · have e2 : decide ((k : Int) < (K : Int)) = true := by simp; omega
      have k2 : (k : Int) < (K : Int) := by omega
      obtain ⟨p, hp⟩ : ∃ p, l1[k]? = some p := ⟨_, List.getElem?_eq_getElem (by rw [HK.out]; exact hlt)⟩
      obtain ⟨b1, o1, rfl, hb1, hcc1⟩ := HS1.out.at_ (by omega)
      rw [HBB.out] at hb1
      have d1 : wr.cell? ⟨b1, o1 + k, none⟩ = some (slv p) := (HBL.out.cell (p := ⟨b1, o1 + k, none⟩) hb1).trans (hcc1 k (slv p) (by rw [List.getElem?_map, hp]; rfl))
      have hgp := HG1.out p (List.mem_of_getElem? hp)
      have hps : (scanW ckW l)[k]? = some (dat p) := by rw [← HD1.out, List.getElem?_map, hp]; rfl
      have hgr : goodR (dat p) := scanW_good l _ (List.mem_of_getElem? hps)
      have htk := take_at hps
      have hfl := framesF_take_le (scanW ckW l) (k + 1)
      rw [HX.out, htk, framesF_snoc, List.length_append, frameF_len ckW_len] at hfl
      obtain ⟨pa, pc, pl⟩ := p
      simp only [slv] at d1
      simp only [dat] at hgr htk hfl
      obtain ⟨m, hm⟩ : ∃ m, pl.length = m := ⟨_, rfl⟩
      have hsB : Sl wr B 1 pa pl.length (bts pl) := by
        have := hgp.2.2
        rw [HBB.out] at this
        exact this.below HBL.out
      have hap := lappend_any HLG.out (by omega) (by rw [HLR.out]; omega) (HRB.out wr HBL.out) (by omega) pa pl m pc hm hgr ⟨hgp.1, hgp.2.1, hsB.more hzB⟩ (low_stays HKP.out.tape hzB hsB) (by simp only; omega)
      rw [hm] at d1
      have HAP := Lib.hid hap
      have HTK := Lib.hid htk
      clear hap hsB hgp hps hgr htk hfl hcc1 hp hm
      go_wp2_with fail
      with_reducible refine HAP.out.mono ?_
      intro e w5 hd
      obtain ⟨sv5, rv5, l5, rfl, hl5, hd5, hk5, _, hb5, _⟩ := ldid_kept HKP.out hzB hd
      have hl50 : l5.length = k + 1 := by rw [dat_len hd5, List.length_append, List.length_map, HLR.out]; rfl
      have HG5 := Lib.hid hl5
      have HK5 := Lib.hid hk5
      have L5 := Lib.hid (HBL.out.trans hb5)
      clear hd hl5 hd5 hk5 hb5
      go_wp2_with fail
      go_roundw
      case rel => exact ⟨k + 1, sv5, rv5, _, l5, by omega, by go_num, by rw [HTK.out, framesF_snoc]; exact HG5.out, hl50, by simp [hst], HK5.out, L5.out⟩
      case measure => simp [intOf]; omega
    · obtain rfl : k = K := by omega
      have e2 : decide ((k : Int) < (k : Int)) = false := by simp
      have hF : framesF ckW ((scanW ckW l).take k) = l.take X := by
        rw [List.take_of_length_le (by rw [← HD1.out, List.length_map, HK.out]; exact Nat.le_refl _), ← HX.out]
        exact (scanW_take l).1.symm
      rw [hF] at HLG
      have hsX : Sl w w.heap.size 1 A X (bts (l.take X)) := by
        have := HA.out.take hXL
        rwa [Nat.mul_one, bts_take] at this
      have hXl : (l.take X).length = X := by rw [List.length_take, HL.out]; omega
      have HSX := Lib.hid hsX
      have HXl := Lib.hid hXl
      have HF := Lib.hid hF
      have LR : Hid (Below w.heap.size w wr) := Lib.hid (L1.out.trans (HBL.out.mono (by omega)))
      have hwr := LR.out.size
      have O1 := Lib.hid (World.ownsRow_made (base := wr.heap.size) (e := 5) (size := 1) wr #[] 0 (Nat.le_refl _) (by unfold maxLen; omega) (by simp))
      have N1 : Hid (Below wr.heap.size wr (wr.alloc (.cells #[] 5))) := Lib.hid (by (first | assumption | (repeat (first | exact Below.refl _ _ | assumption | apply Below.drew | apply below_drewN | (refine Below.setCell ?_ (by (try simp) <;> omega) _) | (refine Below.alloc ?_ (by (try simp) <;> omega) _)))))
      have j1 : (X : Int) ≤ (c : Int) := by omega
      clear hsX hXl hF
      go_wp2_with (first
        | (at_builtin; (refine wpList_append_sl (wr.alloc (.cells #[] 5)) (by rfl) _ _ 22 (by rfl) wr.heap.size 5 i0 _ 1 1 Tryd.underlying22 hi hz0 hz1 hz2 rfl (by omega) (.slice (some ⟨wr.heap.size, 0, none⟩) 0 0) 0 [] (by rfl) O1.out A X c (bts (l.take X)) (by rfl) ((HSX.out.below (LR.out.trans (N1.out.mono hwr))).more (Nat.le_trans hwr N1.out.size)) bts_one (by unfold maxLen; omega) (by omega) (by simp) ?_; intro v2 w2 ho_ hg_ hv_; have P2 := Lib.hid ho_; have N2 : Hid (Below wr.heap.size wr w2) := Lib.hid (N1.out.grown hg_ (by simp) (fun k hk => (own_cells O1.out hk).1)); have S2 := Lib.hid ((HA'.out.below (LR.out.trans (N2.out.mono hwr))).more (Nat.le_trans hwr N2.out.size)); clear ho_ hg_ hv_))
        | (at_builtin; (refine wpList_append_sl w2 (by rfl) _ _ 22 (by rfl) wr.heap.size 5 i0 _ 1 1 Tryd.underlying22 hi hz0 hz1 hz2 rfl (by omega) v2 (0 + X) ([] ++ bts (l.take X)) (by rfl) P2.out A' L' c' (bts l') (by rfl) S2.out bts_one (by unfold maxLen; omega) (by omega) N2.out.size ?_; intro v3 w3 ho_ hg_ hv_; have P3' := ho_; have N3 : Hid (Below wr.heap.size wr w3) := Lib.hid (N2.out.grown hg_ N2.out.size (fun k hk => (own_cells P2.out hk).1)); clear ho_ hg_ hv_; rw [List.nil_append, ← bts_app, Nat.zero_add] at P3'; obtain ⟨A3, c3, rfl, hc31, hc32, hs3⟩ := own_sl P3'; have P3 := Lib.hid hs3; clear P3' hs3)))
      have hll : (l.take X ++ l').length = X + L' := by rw [List.length_append, HXl.out, HL'.out]
      have N3w : Hid (Below w.heap.size w w3) := Lib.hid (LR.out.trans (N3.out.mono hwr))
      have hsc := scan_any A3 (l.take X ++ l') c3 w3 (HR.out.below N3w.out h0) (Nat.lt_of_lt_of_le h0 N3w.out.size) (by rw [hll]; exact hc31) hc32 (by rw [hll]; omega) (by rw [hll]; exact P3.out)
      rw [hll] at hsc
      have hsw : scanW ckW (l.take X ++ l') = scanW ckW l ++ scanW ckW l' := by
        rw [← HF.out, List.take_of_length_le (by rw [← HD1.out, List.length_map, HK.out]; exact Nat.le_refl _)]
        exact scanW_again ckW_len l l'
      rw [hsw] at hsc
      have hsb := scanW_take (ck := ckW) (l.take X ++ l')
      rw [hsw, hll] at hsb
      obtain ⟨Y, hY⟩ : ∃ Y, (framesF ckW (scanW ckW l ++ scanW ckW l')).length = Y := ⟨_, rfl⟩
      rw [hY] at hsc
      have hYb : Y ≤ X + L' := by rw [← hY]; exact hsb.2
      have HSC := Lib.hid hsc
      have HY := Lib.hid hY
      clear hsc hsw hsb hY hll P2 S2 N1 N2 O1
      with_reducible refine HSC.out.mono ?_
      rintro e w4 ⟨v4, l4, rfl, hr4, hd4, hb4⟩
      obtain ⟨M, hM⟩ : ∃ M, l4.length = M := ⟨_, rfl⟩
      have hMK : k ≤ M := by rw [← hM, dat_len hd4, List.length_append, ← dat_len HD1.out, HK.out]; omega
      have hMY : M ≤ Y := by
        have := tot_len l4
        rw [tot, hd4, HY.out] at this
        omega
      obtain ⟨A4, c4, rfl, hc41, hc42, hs4, hg4⟩ := recs_slice hr4 hM
      unfold maxLen at hc42
      have W4 : Hid (Below wr.heap.size wr w4) := Lib.hid (N3.out.trans (hb4.mono N3.out.size))
      have W4w : Hid (Below w.heap.size w w4) := Lib.hid (LR.out.trans (W4.out.mono hwr))
      have HG4 := Lib.hid (HLG.out.below W4.out (Nat.le_refl _))
      have HR4 := Lib.hid hr4
      have HD4 := Lib.hid hd4
      have HM := Lib.hid hM
      have HRD := Lib.hid (read_any B sv _ _ _ w4.drew (HG4.out.tape.below ((Below.refl w4.heap.size w4).drew) (Nat.le_refl _)))
      clear hr4 hd4 hb4 hM hs4 hg4 HSC P3 N3 N3w
      go_upto_region 16 with fail
      go_cut [13] (fun s13 wx => s13 = .bool true ∧ Below w4.heap.size w4 wx)
      case first =>
        go_region_law (first
          | (go_simp; go_at_call 16; (with_reducible refine HRD.out.mono ?_); rintro e w5 ⟨v5, rfl, hr5, hb5, _⟩; obtain ⟨A5, c5, rfl, hc51, hc52, hr5'⟩ := rd_slice hr5 HXl.out; have hb5' : Below w4.heap.size w4 w5 := ((Below.refl w4.heap.size w4).drew).trans hb5)
          | (go_simp; go_at_call 12; (with_reducible refine (same02_at A5 A (l.take X) (l.take X) X X c5 c HXl.out HXl.out w5 (by obtain ⟨_, _, hv, _, _, hs⟩ := hr5'.sl; rw [bts_len, HXl.out] at hv hs; cases hv; exact hs) ((HSX.out.below (W4w.out.trans (hb5'.mono W4w.out.size))).more (Nat.le_trans W4w.out.size hb5'.size))).mono ?_); rintro e w6 ⟨rfl, hb6⟩; rw [decide_eq_true rfl]; have hb6' := step_b hb5' hb6))
        all_goals
          go_wp2_with fail
          go_meet
          case rel => exact ⟨rfl, hb6'⟩
      case rest =>
        obtain ⟨rfl, hbc⟩ := hcut
        have W5w : Hid (Below w.heap.size w wc) := Lib.hid (W4w.out.trans (hbc.mono W4w.out.size))
        have HB5 := Lib.hid hbc
        clear hbc
        go_wp2_with fail
        with_reducible refine (walive_any wc (HR.out.below W5w.out h0) (Nat.lt_of_lt_of_le h0 W5w.out.size)).mono ?_
        rintro e w7 ⟨rfl, hb7⟩
        have HB7 := Lib.hid (step_b HB5.out hb7)
        have W7w : Hid (Below w.heap.size w w7) := Lib.hid (W5w.out.trans (hb7.mono W5w.out.size))
        obtain ⟨A4', c4', hv4, _, _, hs7, hg7⟩ := recs_slice (HR4.out.below HB7.out (Nat.le_refl _)) HM.out
        cases hv4
        have hs7k := hs7.take hMK
        rw [Nat.mul_one, ← List.map_take] at hs7k
        have hw17 : Below w1.heap.size w1 w7 := (HBL.out.mono (by rw [HBB.out]; exact Nat.le_refl _)).trans ((W4.out.trans (HB7.out.mono W4.out.size)).mono HBL.out.size)
        have hsm := rsame_any A4 A1 (l4.take k) l1 k k c4 c1 (by rw [List.length_take, HM.out]; omega) HK.out w7 (by omega) (by omega) hs7k ((HS1.out.below hw17).more hw17.size) (fun p hp => hg7 p (List.mem_of_mem_take hp)) (fun p hp => (HG1.out p hp).below hw17)
        rw [decide_eq_true (by rw [List.map_take, HD4.out, HD1.out, List.take_left' (by rw [← dat_len HD1.out, HK.out])])] at hsm
        have HSM := Lib.hid hsm
        have q3 : decide ((k : Int) ≤ (M : Int)) = true := by simp; omega
        have q4 : (k : Int) ≤ (c4 : Int) := by omega
        clear hb7 hs7 hg7 hs7k hw17 hsm HR4 HB5 W5w
        go_wp2_with fail
        with_reducible refine HSM.out.mono ?_
        rintro e w8 ⟨rfl, hb8⟩
        have W8w : Hid (Below w.heap.size w w8) := Lib.hid (W7w.out.trans (hb8.mono W7w.out.size))
        clear hb8
        go_wp2_with fail
        go_ret
        exact ⟨rfl, W8w.out⟩
end Go.Proofs.YtpmmojjffjpmbaaDoor

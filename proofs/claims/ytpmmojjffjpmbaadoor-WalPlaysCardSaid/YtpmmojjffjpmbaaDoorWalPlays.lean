/- What this text proves: the contract of the law WalPlays. The conditions are how the script lies in memory, and that the package's table is as its text lays it. -/
import Derived.Test.YtpmmojjffjpmbaaDoorWalPl
import Derived.Deep.RegionLaw
import Derived.Deep.CutBlock
import Derived.Deep.DeepCutAuto
namespace Go.Proofs.YtpmmojjffjpmbaaDoor
open Go.RowKit
set_option linter.unusedVariables false
set_option linter.unusedSimpArgs false

/-- How the k-th operation lies. -/
theorem op_at {w : World} {A : Option Addr} {l : List OpV} {k : Nat} {o : OpV} (h : Sl w w.heap.size 4 A l.length (l.flatMap OpV.cells)) (hk : l[k]? = some o) :
    ∃ b off, A = some ⟨b, off, none⟩ ∧ b < w.heap.size ∧ w.cell? ⟨b, off + k * 4, none⟩ = some (.int .i64 o.k) ∧ w.cell? ⟨b, off + k * 4 + 1, none⟩ = some (.int .i64 o.n) ∧ w.cell? ⟨b, off + k * 4 + 2, none⟩ = some (.int .i64 o.m) ∧ w.cell? ⟨b, off + k * 4 + 3, none⟩ = some (.slice o.A o.b.length o.c) := by
  have hl : k < l.length := (List.getElem?_eq_some_iff.1 hk).1
  obtain ⟨b, off, hA, hb, hc⟩ := h.at_ (by omega)
  have g := fun j (hj : j < 4) => flat_get OpV.cells (s := 4) (fun _ => rfl) l k o j hk hj
  refine ⟨b, off, hA, hb, ?_, ?_, ?_, ?_⟩
  · exact hc (k * 4) _ (by have := g 0 (by omega); simpa [OpV.cells] using this)
  · rw [Nat.add_assoc]; exact hc (k * 4 + 1) _ (by have := g 1 (by omega); simpa [OpV.cells] using this)
  · rw [Nat.add_assoc]; exact hc (k * 4 + 2) _ (by have := g 2 (by omega); simpa [OpV.cells] using this)
  · rw [Nat.add_assoc]; exact hc (k * 4 + 3) _ (by have := g 3 (by omega); simpa [OpV.cells] using this)

set_option maxRecDepth 100000 in
set_option maxHeartbeats 16000000 in
theorem plays_walk (A : Option Addr) (l : List OpV) (c : Nat) (hl : l.length ≤ c) (hcm : c ≤ maxLen) {w : World} (hA : Sl w w.heap.size 4 A l.length (l.flatMap OpV.cells)) (hg : ∀ o ∈ l, OpV.good w o) (_ : World) (hr : Roots w ∧ 0 < w.heap.size) :
    Calls Tryd.prog 6 #[.slice A l.length c] w fun e w' => e = .returned (.bool true) ∧ Below w.heap.size w w' := by
  have h0 := hr.2
  have HR := Lib.hid hr.1
  have HS := Lib.hid hA
  have HG := Lib.hid hg
  unfold maxLen at hcm
  clear hr hA hg
  go_enter Tryd.func6, Tryd.ntmps6
  go_wp2_with fail
  with_reducible refine (tnew_any w).mono ?_
  rintro e w1 ⟨rfl, hb1, hlt, ht1⟩
  obtain ⟨B, hB⟩ : ∃ B, w.heap.size = B := ⟨_, rfl⟩
  rw [hB] at hb1 hlt ht1 h0 ⊢
  have HBB := Lib.hid hB
  have HT1 := Lib.hid ht1
  have HL1 := Lib.hid hb1
  clear ht1 hB hb1
  go_wp2_with fail
  with_reducible refine (open_any HT1.out (by simp) (HR.out.below HL1.out h0) (by omega)).mono ?_
  intro e w2 hd
  obtain ⟨lp, sv2, rv2, l2, rfl, hlp, hl2, hd2, hk2, hb2, hrv2⟩ := op_kept (B := B) ⟨Nat.le_refl _, fun k h => by cases h⟩ (by omega) hd
  have HL2 := Lib.hid (HL1.out.trans hb2)
  rw [show scanW ckW ([] : List UInt8) = [] from rfl] at hl2 hd2
  have hl20 : l2.length = 0 := dat_len hd2
  have hz2 := hb2.size
  have HG2 := Lib.hid hl2
  have HK2 := Lib.hid hk2
  have HD2 := Lib.hid hd2
  clear hd hl2 hk2 hd2 hb2 hrv2
  go_wp2_with fail
  with_reducible refine (walive_any w2 (HR.out.below HL2.out h0) (by omega)).mono ?_
  rintro e w3 ⟨rfl, hb3⟩
  have hz3 := hb3.size
  have HP3 : Hid (PI w w B 0 (.pointer (some ⟨B, 0, none⟩)) (.pointer (some ⟨lp, 0, none⟩)) (.slice none 0 0) (.int .i64 0) w3) := Lib.hid
    ⟨⟨B, lp, 0, sv2, rv2, ([], 0), 0, _, l2, [], rfl, rfl, rfl, by have := HG2.out.below hb3 (Nat.le_refl _); rw [hl20] at this; exact this, HD2.out, HK2.out, ⟨World.ownsRow_nil _ _ _ _, (fun p hp => nomatch hp), (fun p hp => nomatch hp)⟩, fun x hx => (nomatch hx), by simp, fun s hs => by
      rcases List.mem_cons.1 hs with rfl | hs
      · simp
      · rw [List.nil_append, List.mem_singleton] at hs
        subst hs
        exact Nat.le_refl _, Nat.le_refl _⟩, HL2.out.trans (hb3.mono (by omega)), Nat.le_of_eq HBB.out, Nat.le_of_eq HBB.out.symm⟩
  clear hb3 HG2 HK2 HD2 HL2 HL1 HT1 hl20
  go_wp2_with fail
  go_loopw [3, 4, 6, 7, 8] (fun t lg v s i wr => ∃ k : Nat, k ≤ 40 ∧ k ≤ l.length ∧ i = .int .i64 k ∧ PI w w B k t lg v s wr) (fun _ _ _ _ i _ => 40 - (intOf i).toNat)
  case atStart => exact ⟨0, by omega, by omega, rfl, HP3.out⟩
  case round =>
    obtain ⟨k, hk, hkl, rfl, hpi⟩ := hrel
    clear HP3 hz3 hz2 hlt hlp
    have hpb := hpi.bel
    have hzB : B ≤ wr.heap.size := by have := hpb.size; rw [HBB.out] at this; exact this
    obtain ⟨tp, lp', syn, sv, rv, f, sf, st, lr, la, rfl, rfl, rfl, hlog, hlr, hkp, hal, hsep, hst, hfs, hfl⟩ := hpi.ex
    by_cases hlt : k < l.length ∧ k < 40
    · obtain ⟨hk1, hk2⟩ := hlt
      have e1 : (k : Int) < (l.length : Int) := by omega
      have e2 : (k : Int) < 40 := by omega
      obtain ⟨o, ho⟩ : ∃ o, l[k]? = some o := ⟨_, List.getElem?_eq_getElem hk1⟩
      have hgo := HG.out o (List.mem_of_getElem? ho)
      have hbw : Below w.heap.size w wr := by rw [HBB.out]; exact hpb
      obtain ⟨b, off, rfl, hb, c0, c1, c2, c3⟩ := op_at ((HS.out.below hbw).more hbw.size) ho
      have HO := Lib.hid hgo
      have HPI := Lib.hid hpi
      have HLG := Lib.hid hlog
      have HLR := Lib.hid hlr
      have HKP := Lib.hid hkp
      have HAL := Lib.hid hal
      have HSEP := Lib.hid hsep
      have HFS := Lib.hid hfs
      have HBL := Lib.hid hpb
      clear ho hgo hlog hlr hkp hal hsep hfs hpi hpb hbw
      by_cases hbig : 5000 < o.b.length
      · have e3 : decide ((o.b.length : Int) ≤ 5000) = false := by simp; omega
        have e3' : decide (5000 < (o.b.length : Int)) = true := by simp; omega
        have hb4 : Below B wr (wr.alloc (.cells #[.int .i64 o.k, .int .i64 o.n, .int .i64 o.m, .slice o.A o.b.length o.c] 43)) := (Below.refl _ _).alloc hzB _
        have HB4 := Lib.hid hb4
        clear hb4
        go_wp2_with fail
        go_roundw
        case rel => exact ⟨k + 1, by omega, by omega, by go_num, HPI.out.next (by omega) HB4.out (Below.alloc (Below.refl _ _) (Nat.le_refl _) _)⟩
        case measure => simp [intOf]; omega
      · have e3 : decide ((o.b.length : Int) ≤ 5000) = true := by simp; omega
        have e3' : decide (5000 < (o.b.length : Int)) = false := by simp; omega
        go_upto_block 2 with fail
        have BO := Lib.hid (Bk.new wr 43 #[.int .i64 o.k, .int .i64 o.n, .int .i64 o.m, .slice o.A o.b.length o.c])
        have LO : Hid (Below wr.heap.size wr (wr.alloc (.cells #[.int .i64 o.k, .int .i64 o.n, .int .i64 o.m, .slice o.A o.b.length o.c] 43))) := Lib.hid (by (first | assumption | (repeat (first | exact Below.refl _ _ | assumption | apply Below.drew | apply below_drewN | (refine Below.setCell ?_ (by (try simp) <;> omega) _) | (refine Below.alloc ?_ (by (try simp) <;> omega) _)))))
        obtain ⟨go, hgo⟩ : ∃ x, wr.heap.size = x := ⟨_, rfl⟩
        obtain ⟨wo, hwo⟩ : ∃ x, wr.alloc (.cells #[.int .i64 o.k, .int .i64 o.n, .int .i64 o.m, .slice o.A o.b.length o.c] 43) = x := ⟨_, rfl⟩
        rw [hwo] at BO LO ⊢
        rw [hgo] at BO ⊢
        have HGO := Lib.hid hgo
        have hz : wr.heap.size ≤ wo.heap.size := LO.out.size
        have HL4 := Lib.hid (HLG.out.below LO.out (Nat.le_refl _))
        have HA4 := Lib.hid (HAL.out.below LO.out (by rw [HBB.out]; exact hzB))
        have HB4 : Hid (Below B w wo) := Lib.hid (HBL.out.trans (LO.out.mono hzB))
        have hzo : B ≤ wo.heap.size := Nat.le_trans hzB hz
        clear hgo hwo c0 c1 c2 c3 HAL HLG hb
        have co0 : wo.cell? ⟨go, 0, none⟩ = some (.int .i64 o.k) := BO.out.cell 0
        have co1 : wo.cell? ⟨go, 1, none⟩ = some (.int .i64 o.n) := BO.out.cell 1
        have co2 : wo.cell? ⟨go, 2, none⟩ = some (.int .i64 o.m) := BO.out.cell 2
        have co3 : wo.cell? ⟨go, 3, none⟩ = some (.slice o.A o.b.length o.c) := BO.out.cell 3
        have hgoB : B ≤ go := by rw [← HGO.out]; exact hzB
        go_cut [3, 4, 6, 7] (fun t lg v s wx => PI w w B (k + 1) t lg v s wx)
        case first =>
          by_cases k1 : o.k = 1
          · have e4 : (o.k == 1) = true := by simp [k1]
            clear k1
            obtain ⟨L, hL⟩ : ∃ L, o.b.length = L := ⟨_, rfl⟩
            rw [hL] at e3 e3' hbig co3 ⊢
            have HLb := Lib.hid hL
            clear hL
            by_cases hgd : 0 < L ∧ L ≤ 4096
            · obtain ⟨hg1, hg2⟩ := hgd
              have e5 : ((L : Int) == 0) = false := by simp; omega
              have e6 : decide (4096 < (L : Int)) = false := by simp; omega
              obtain ⟨i1, hi1, hy0, hy1, hy2⟩ := info_parts info_bytes
              have hlal : la.length ≤ 5006 * k := by have := tot_len la; unfold tot at this; omega
              go_upto_region 18 with (at_builtin; go_loud (refine wpList_append_sl (wo.alloc (.cells #[.slice o.A L o.c] 22)) (by rfl) _ _ 24 (by rfl) B 22 i1 _ 1 24 Tryd.underlying24 hi1 hy0 hy1 hy2 rfl (by omega) u6 la.length (la.map slv) (by rfl) (HA4.out.own.alloc _) (some ⟨wo.heap.size, 0, none⟩) 1 1 [.slice o.A L o.c] (by rfl) (built_sl rfl) (by simp [Value.oneCell']) (by unfold maxLen; omega) (by omega) (by simp; omega) ?_; intro v5 w5 ho_ hg_ hv_; have HG5 := Lib.hid (And.intro ho_ (And.intro hg_ hv_)); clear ho_ hg_ hv_))
              obtain ⟨ho5, hg5, hv5⟩ := HG5.out
              have hpg : PGood wo w.heap.size (o.A, o.c, o.b) := ⟨HO.out.le, HO.out.cap, HO.out.sl.below (by rw [HBB.out]; exact HB4.out)⟩
              have hgr : goodR o.b := ⟨by rw [HLb.out]; exact hg1, by rw [HLb.out]; exact hg2⟩
              obtain ⟨ha5, hm5⟩ := AllAt.snoc (p := (o.A, o.c, o.b)) (v' := v5) HA4.out hpg hgr (by rw [HBB.out]; exact hzo) (by rw [HBB.out]; exact Nat.le_refl _) (by rw [show slv (o.A, o.c, o.b) = .slice o.A L o.c from by simp [slv, HLb.out]]; exact hg5) (by rw [show slv (o.A, o.c, o.b) = .slice o.A L o.c from by simp [slv, HLb.out]]; exact ho5)
              have hl5 := HL4.out.vmoves HA4.out.own HSEP.out hm5
              have hb5 : Below B wo w5 := hm5.to_below hzo (fun k o e => (own_cells HA4.out.own e.symm).1)
              have HB5 := Lib.hid (HB4.out.trans hb5)
              have hbo5 := hm5.bk BO.out (fun e => by
                obtain ⟨_, _, cs, hcs⟩ := own_cells HA4.out.own e.symm
                exact Bk.ne_ (g := go) BO.out hcs (by decide) rfl)
              have co5 : w5.cell? ⟨go, 3, none⟩ = some (.slice o.A L o.c) := by rw [hbo5.cell 3, ← HLb.out]; rfl
              have hz5 : B ≤ w5.heap.size := Nat.le_trans hzo hb5.size
              have hsB : Sl w5 B 1 o.A o.b.length (bts o.b) := by
                have := HO.out.sl.below (B := w.heap.size) (w' := w5) (by rw [HBB.out]; exact HB5.out)
                rwa [HBB.out] at this
              have hsep5 : ∀ x, v5.ownBlock = some x → rv.ownBlock ≠ some x := fun x hx hy => by
                rcases hv5 with h | h
                · exact HSEP.out x (h ▸ hx) hy
                · have h1 := (own_cells HL4.out.recs.own hy).2.1
                  rw [hx] at h
                  injection h with h
                  rw [h] at h1
                  simp at h1
                  omega
              have hv5l : ∀ x, v5.ownBlock = some x → x < w5.heap.size := fun x hx => (own_cells ha5.own hx).2.1
              have hap := lappend_any hl5 (by omega) (by rw [dat_len HLR.out, List.length_map]; omega) (HR.out.below HB5.out h0) (by omega) o.A o.b L o.c HLb.out hgr ⟨HO.out.le, HO.out.cap, hsB.more hz5⟩ (low_stays HKP.out.tape hz5 hsB) (by simp only; rw [HLb.out]; omega)
              have HAP := Lib.hid hap
              have HX5 := Lib.hid (And.intro ha5 (And.intro hl5 (And.intro hsep5 (And.intro hv5l hgr))))
              clear HG5 ho5 hg5 hv5 hpg hgr ha5 hm5 hl5 hb5 hbo5 hsB hsep5 hv5l hap co0 co1 co2 co3
              go_wp2_with fail
              with_reducible refine HAP.out.mono ?_
              intro e w6 hd
              obtain ⟨sv6, rv6, l6, rfl, hl6, hd6, hk6, hm6, hb6, hrv6⟩ := ldid_kept HKP.out hz5 hd
              have HP6 : Hid (PI w w B (k + 1) (.pointer (some ⟨tp, 0, none⟩)) (.pointer (some ⟨lp', 0, none⟩)) v5 (.int .i64 (syn : Nat)) w6) := Lib.hid (by
                obtain ⟨ha5, hl5, hsep5, hv5l, hgr⟩ := HX5.out
                have hfr : framesF ckW ((la ++ [(o.A, o.c, o.b)]).map dat) = framesF ckW (la.map dat) ++ frameF ckW o.b := by rw [List.map_append, framesF_append]; simp [framesF, dat]
                have hfrl : (framesF ckW (la.map dat) ++ frameF ckW o.b).length ≤ 5006 * (k + 1) := by rw [List.length_append, frameF_len ckW_len, HLb.out]; omega
                refine ⟨⟨tp, lp', syn, sv6, rv6, f, sf, _, l6, la ++ [(o.A, o.c, o.b)], rfl, rfl, rfl, by rw [hfr]; exact hl6, by rw [hd6, HLR.out, List.map_append]; rfl, hk6, ha5.lmoves hl5 HKP.out (by rw [HBB.out]; exact Nat.le_refl _) (by rw [HBB.out]; exact hz5) hsep5 hm6, fun x hx hy => ?_, by simp; omega, fun s hs => ?_, by rw [hfr]; exact hfrl⟩, HB5.out.trans hb6, Nat.le_of_eq HBB.out, Nat.le_of_eq HBB.out.symm⟩
                · rcases hrv6 x hy with h | h
                  · exact hsep5 x hx h
                  · have := hv5l x hx
                    omega
                · rcases List.mem_cons.1 hs with rfl | hs
                  · have := HFS.out s (by simp); omega
                  · rcases List.mem_append.1 hs with hs | hs
                    · have := HFS.out s (by simp [hs]); omega
                    · rw [List.mem_singleton] at hs
                      subst hs
                      exact hfrl)
              clear hd hl6 hd6 hk6 hm6 hb6 hrv6 HX5 HAP
              go_wp2_with fail
              go_meet
              case rel => exact HP6.out
            · have HBA := Lib.hid (lappend_bad (w := wo) (lp := lp') o.A L o.c (by unfold maxLen; omega) (by omega))
              rcases Nat.eq_zero_or_pos L with hz0 | hz0
              · subst hz0
                go_wp2_with fail
                with_reducible refine HBA.out.mono ?_
                rintro e w6 ⟨rfl, rfl⟩
                go_wp2_with fail
                go_meet
                case rel => exact HPI.out.next (by omega) (LO.out.mono hzB) LO.out
              · have e5 : ((L : Int) == 0) = false := by simp; omega
                have e7 : (4096 : Int) < (L : Int) := by omega
                have e6 : decide (4096 < (L : Int)) = true := by simp; omega
                clear hgd
                go_wp2_with fail
                with_reducible refine HBA.out.mono ?_
                rintro e w6 ⟨rfl, rfl⟩
                go_wp2_with fail
                go_meet
                case rel => exact HPI.out.next (by omega) (LO.out.mono hzB) LO.out
          have e4 : (o.k == 1) = false := by simp [k1]
          by_cases k2 : o.k = 2
          · have e5 : (o.k == 2) = true := by simp [k2]
            clear k1 k2
            obtain ⟨Av, cv, rfl, _, _, hslv⟩ := HA4.out.slice rfl
            have HSY := Lib.hid (lsync_any HL4.out (by omega))
            clear hslv
            go_wp2_with fail
            with_reducible refine HSY.out.mono ?_
            intro e w6 hd
            obtain ⟨sv6, rv6, l6, rfl, hl6, hd6, hk6, hm6, hb6, hrv6⟩ := ldid_kept HKP.out hzo hd
            have HP6 : Hid (PI w w B (k + 1) (.pointer (some ⟨tp, 0, none⟩)) (.pointer (some ⟨lp', 0, none⟩)) (.slice Av la.length cv) (.int .i64 (la.length : Nat)) w6) := Lib.hid (by
              refine ⟨⟨tp, lp', la.length, sv6, rv6, f, _, _, l6, la, rfl, rfl, rfl, by rw [show lr.length = la.length from by have := dat_len HLR.out; rwa [List.length_map] at this] at hl6; exact hl6, by rw [hd6, HLR.out], hk6, HA4.out.lmoves HL4.out HKP.out (by rw [HBB.out]; exact Nat.le_refl _) (by rw [HBB.out]; exact hzo) HSEP.out hm6, fun x hx hy => ?_, by simp; omega, fun s hs => ?_, by omega⟩, HB4.out.trans hb6, Nat.le_of_eq HBB.out, Nat.le_of_eq HBB.out.symm⟩
              · rcases hrv6 x hy with h | h
                · exact HSEP.out x hx h
                · have := (own_cells HA4.out.own hx).2.1
                  omega
              · rcases List.mem_cons.1 hs with rfl | hs
                · have := HFS.out s (by simp); omega
                · rcases List.mem_append.1 hs with hs | hs
                  · have := HFS.out s (by simp [hs]); omega
                  · rw [List.mem_singleton] at hs
                    subst hs
                    simp only
                    omega)
            clear hd hl6 hd6 hk6 hm6 hb6 hrv6 HSY
            go_wp2_with fail
            go_meet
            case rel => exact HP6.out
          have e5 : (o.k == 2) = false := by simp [k2]
          by_cases k3 : o.k = 3
          · have e6 : (o.k == 3) = true := by simp [k3]
            have e7 : (o.k == 4) = false := by simp [k3]
            have e8 : (o.k == 5) = false := by simp [k3]
            clear k1 k2 k3
            have HTR := Lib.hid (ti_trim HL4.out.tape HKP.out.tape hzo HB4.out hst HFS.out hfl hk o.n)
            go_wp2_with fail
            with_reducible refine HTR.out.mono ?_
            rintro e wx ⟨r, rfl, hti, hko⟩
            have cox : wx.cell? ⟨go, 0, none⟩ = some (.int .i64 o.k) := (hko _ _ BO.out).cell 0
            clear hko HTR
            obtain ⟨svx, fx, nx, stx, tx, kx, hnx, hsx, hfx⟩ := hti.ex
            have hzx := hti.size
            have HBX := Lib.hid hti.bel
            have HT := Lib.hid tx
            have KT := Lib.hid kx
            have HFX := Lib.hid hfx
            obtain ⟨LN, hLN⟩ : ∃ LN, nx.1.length = LN := ⟨_, rfl⟩
            rw [hLN] at hnx
            have HLN := Lib.hid hLN
            have HRD := Lib.hid (read_any tp svx fx nx stx wx HT.out)
            clear hLN hti tx kx hfx HL4 HA4 HB4 BO LO HLR HKP HSEP HFS HPI HGO HBL hst hfl
            go_wp2_with fail
            with_reducible refine HRD.out.mono ?_
            rintro e w7 ⟨v7, rfl, hr7, hb7, _⟩
            obtain ⟨A7, c7, rfl, hc71, hc72, hr7'⟩ := rd_slice hr7 HLN.out
            have HT7 := Lib.hid (HT.out.below hb7 (Nat.le_refl _))
            have hz7 : B ≤ w7.heap.size := Nat.le_trans hzx hb7.size
            have HB7 := Lib.hid (HBX.out.trans (hb7.mono hzx))
            have HR7 := Lib.hid hr7'
            clear hr7 hr7' hb7 HT HRD HBX
            go_wp2_with fail
            with_reducible refine (open_any HT7.out (by omega) (HR.out.below HB7.out h0) (by omega)).mono ?_
            intro e w8 hd
            obtain ⟨lp8, sv8, rv8, l8, rfl, hlp8, hl8, hd8, hk8, hb8, hrv8⟩ := op_kept KT.out hz7 hd
            have hz8 : B ≤ w8.heap.size := Nat.le_trans hz7 hb8.size
            have HB8 := Lib.hid (HB7.out.trans hb8)
            have hs8 : Sl w8 w8.heap.size 1 A7 LN (bts nx.1) := (by
              have hm8 := OpPost.moves hd
              obtain ⟨_, _, hv, _, _, hs⟩ := (HR7.out.moves hm8 (fun k cur _ hk hx => tape_tag HT7.out hx hk (by decide) (by decide))).sl
              rw [bts_len, HLN.out] at hv hs
              cases hv
              exact hs)
            have hrv8' : ∀ x, rv8.ownBlock = some x → x < w8.heap.size := fun x hx => (own_cells hl8.recs.own hx).2.1
            have HG8 := Lib.hid hl8
            have HD8 := Lib.hid hd8
            have HK8 := Lib.hid hk8
            have HRV8 := Lib.hid hrv8'
            have HSC := Lib.hid (rscan_any A7 nx.1 LN c7 HLN.out w8 hc71 hc72 (by omega) hs8)
            clear hd hl8 hd8 hk8 hb8 hs8 hrv8 hrv8' HR7 HT7 HB7
            go_wp2_with fail
            with_reducible refine HSC.out.mono ?_
            rintro e w9 ⟨v9, l9, rfl, hr9, hd9, hb9⟩
            obtain ⟨M9, hM9⟩ : ∃ M9, l9.length = M9 := ⟨_, rfl⟩
            obtain ⟨A9, c9, rfl, _, _, _, _⟩ := recs_slice hr9 hM9
            have hFl : (framesF ckW (scanW ckW nx.1)).length ≤ LN := by rw [← HLN.out]; exact (scanW_take nx.1).2
            have HP9 : Hid (PI w w B (k + 1) (.pointer (some ⟨tp, 0, none⟩)) (.pointer (some ⟨lp8, 0, none⟩)) (.slice A9 M9 c9) (.int .i64 (M9 : Nat)) w9) := Lib.hid
              ⟨⟨tp, lp8, M9, sv8, rv8, fx, _, _, l8, l9, rfl, rfl, rfl, (by have := HG8.out.below hb9 (Nat.le_refl _); rw [show l8.length = M9 from by rw [dat_len HD8.out, ← dat_len hd9]; exact hM9] at this; rw [hd9]; exact this), by rw [HD8.out, hd9], HK8.out,
                ⟨own_low hr9.own hz8, (fun p hp => .inl (hr9.rd p hp)), (fun p hp => scanW_good nx.1 _ (by rw [← hd9]; exact List.mem_map_of_mem hp))⟩, (fun x hx hy => by
                  have h1 := (own_cells hr9.own hx).1
                  have h2 := HRV8.out x hy
                  omega), by simp; omega, (fun s hs => by
                  rcases List.mem_cons.1 hs with rfl | hs
                  · exact Nat.le_trans (HFX.out _ (by simp)) (by omega)
                  · rcases List.mem_append.1 hs with hs | hs
                    · exact Nat.le_trans (HFX.out _ (by simp [hs])) (by omega)
                    · rw [List.mem_singleton] at hs
                      subst hs
                      simp only
                      omega), by rw [hd9]; omega⟩, HB8.out.trans (hb9.mono hz8), Nat.le_of_eq HBB.out, Nat.le_of_eq HBB.out.symm⟩
            clear hr9 hd9 hb9 hM9 HG8 HD8 HK8 HRV8 HSC HB8 HFX KT
            go_wp2_with fail
            go_meet
            case rel => exact HP9.out
          by_cases k4 : o.k = 4
          · have e6 : (o.k == 3) = false := by simp [k4]
            have e7 : (o.k == 4) = true := by simp [k4]
            have e8 : (o.k == 5) = false := by simp [k4]
            clear k1 k2 k3 k4
            have hwm := bounds_i64 HO.out.m
            have hdo : Below wo.heap.size wo wo.drew := (Below.refl _ _).drew
            have HCA := Lib.hid (calls_any tp sv f _ st wo.drew (HL4.out.tape.below hdo (Nat.le_refl _)))
            have HCU := Lib.hid (fun (W : World) (hW : Below wo.heap.size wo W) => ti_cut (k := k) (w := w) (B := B) (HL4.out.tape.below hW (Nat.le_refl _)) (Nat.le_trans hzo hW.size) (HB4.out.trans (hW.mono hzo)) hst HFS.out hk (st.length : Int) o.m (by omega) (by omega))
            go_upto_region 30 with fail
            go_cut [3] (fun t wx => ∃ tp', t = .pointer (some ⟨tp', 0, none⟩) ∧ TI w B k tp' wx ∧ wx.cell? ⟨go, 0, none⟩ = some (.int .i64 o.k))
            case first =>
              go_region_law (first
                | (go_simp; go_at_call 22; (with_reducible refine HCA.out.mono ?_); rintro e wy ⟨rfl, by_⟩; have by' : Below wo.heap.size wo wy := hdo.trans by_; have coy := (by'.cell (p := ⟨go, 2, none⟩) BO.out.lt).trans co2)
                | (go_simp; go_at_call 21; (with_reducible refine (HCU.out _ by').mono ?_); rintro e wz ⟨tp', rfl, hti, hko⟩; have cox : wz.cell? ⟨go, 0, none⟩ = some (.int .i64 o.k) := (hko _ _ (BO.out.below by' BO.out.lt)).cell 0))
              all_goals
                go_wp2_with fail
                go_meet
                case rel => exact ⟨tp', rfl, hti, cox⟩
            case rest =>
              obtain ⟨tp', rfl, hti, cox⟩ := hcut
              clear HCA HCU
              obtain ⟨svx, fx, nx, stx, tx, kx, hnx, hsx, hfx⟩ := hti.ex
              have hzx := hti.size
              have HBX := Lib.hid hti.bel
              have HT := Lib.hid tx
              have KT := Lib.hid kx
              have HFX := Lib.hid hfx
              obtain ⟨LN, hLN⟩ : ∃ LN, nx.1.length = LN := ⟨_, rfl⟩
              rw [hLN] at hnx
              have HLN := Lib.hid hLN
              have HRD := Lib.hid (read_any tp' svx fx nx stx wc HT.out)
              clear hLN hti tx kx hfx HL4 HA4 HB4 BO LO HLR HKP HSEP HFS HPI HGO HBL hst hfl
              go_wp2_with fail
              with_reducible refine HRD.out.mono ?_
              rintro e w7 ⟨v7, rfl, hr7, hb7, _⟩
              obtain ⟨A7, c7, rfl, hc71, hc72, hr7'⟩ := rd_slice hr7 HLN.out
              have HT7 := Lib.hid (HT.out.below hb7 (Nat.le_refl _))
              have hz7 : B ≤ w7.heap.size := Nat.le_trans hzx hb7.size
              have HB7 := Lib.hid (HBX.out.trans (hb7.mono hzx))
              have HR7 := Lib.hid hr7'
              clear hr7 hr7' hb7 HT HRD HBX
              go_wp2_with fail
              with_reducible refine (open_any HT7.out (by omega) (HR.out.below HB7.out h0) (by omega)).mono ?_
              intro e w8 hd
              obtain ⟨lp8, sv8, rv8, l8, rfl, hlp8, hl8, hd8, hk8, hb8, hrv8⟩ := op_kept KT.out hz7 hd
              have hz8 : B ≤ w8.heap.size := Nat.le_trans hz7 hb8.size
              have HB8 := Lib.hid (HB7.out.trans hb8)
              have hs8 : Sl w8 w8.heap.size 1 A7 LN (bts nx.1) := (by
                have hm8 := OpPost.moves hd
                obtain ⟨_, _, hv, _, _, hs⟩ := (HR7.out.moves hm8 (fun k cur _ hk hx => tape_tag HT7.out hx hk (by decide) (by decide))).sl
                rw [bts_len, HLN.out] at hv hs
                cases hv
                exact hs)
              have hrv8' : ∀ x, rv8.ownBlock = some x → x < w8.heap.size := fun x hx => (own_cells hl8.recs.own hx).2.1
              have HG8 := Lib.hid hl8
              have HD8 := Lib.hid hd8
              have HK8 := Lib.hid hk8
              have HRV8 := Lib.hid hrv8'
              have HSC := Lib.hid (rscan_any A7 nx.1 LN c7 HLN.out w8 hc71 hc72 (by omega) hs8)
              clear hd hl8 hd8 hk8 hb8 hs8 hrv8 hrv8' HR7 HT7 HB7
              go_wp2_with fail
              with_reducible refine HSC.out.mono ?_
              rintro e w9 ⟨v9, l9, rfl, hr9, hd9, hb9⟩
              obtain ⟨M9, hM9⟩ : ∃ M9, l9.length = M9 := ⟨_, rfl⟩
              obtain ⟨A9, c9, rfl, _, _, _, _⟩ := recs_slice hr9 hM9
              have hFl : (framesF ckW (scanW ckW nx.1)).length ≤ LN := by rw [← HLN.out]; exact (scanW_take nx.1).2
              have HP9 : Hid (PI w w B (k + 1) (.pointer (some ⟨tp', 0, none⟩)) (.pointer (some ⟨lp8, 0, none⟩)) (.slice A9 M9 c9) (.int .i64 (M9 : Nat)) w9) := Lib.hid
                ⟨⟨tp', lp8, M9, sv8, rv8, fx, _, _, l8, l9, rfl, rfl, rfl, (by have := HG8.out.below hb9 (Nat.le_refl _); rw [show l8.length = M9 from by rw [dat_len HD8.out, ← dat_len hd9]; exact hM9] at this; rw [hd9]; exact this), by rw [HD8.out, hd9], HK8.out,
                  ⟨own_low hr9.own hz8, (fun p hp => .inl (hr9.rd p hp)), (fun p hp => scanW_good nx.1 _ (by rw [← hd9]; exact List.mem_map_of_mem hp))⟩, (fun x hx hy => by
                    have h1 := (own_cells hr9.own hx).1
                    have h2 := HRV8.out x hy
                    omega), by simp; omega, (fun s hs => by
                    rcases List.mem_cons.1 hs with rfl | hs
                    · exact Nat.le_trans (HFX.out _ (by simp)) (by omega)
                    · rcases List.mem_append.1 hs with hs | hs
                      · exact Nat.le_trans (HFX.out _ (by simp [hs])) (by omega)
                      · rw [List.mem_singleton] at hs
                        subst hs
                        simp only
                        omega), by rw [hd9]; omega⟩, HB8.out.trans (hb9.mono hz8), Nat.le_of_eq HBB.out, Nat.le_of_eq HBB.out.symm⟩
              clear hr9 hd9 hb9 hM9 HG8 HD8 HK8 HRV8 HSC HB8 HFX KT
              go_wp2_with fail
              go_meet
              case rel => exact HP9.out
          have e7 : (o.k == 4) = false := by simp [k4]
          have e6 : (o.k == 3) = false := by simp [k3]
          by_cases k5 : o.k = 5
          · have e8 : (o.k == 5) = true := by simp [k5]
            clear k1 k2 k3 k4 k5
            have HTA := Lib.hid (ti_append HL4.out.tape HKP.out.tape hzo HB4.out hst HFS.out hfl hk o.A o.b o.b.length o.c rfl (by omega) ((HO.out.sl.below (B := w.heap.size) (w' := wo) (by rw [HBB.out]; exact HB4.out)).more (by rw [HBB.out]; exact hzo)))
            go_wp2_with fail
            with_reducible refine HTA.out.mono ?_
            rintro e wx ⟨r, rfl, hti, hko⟩
            clear hko HTA
            obtain ⟨svx, fx, nx, stx, tx, kx, hnx, hsx, hfx⟩ := hti.ex
            have hzx := hti.size
            have HBX := Lib.hid hti.bel
            have HT := Lib.hid tx
            have KT := Lib.hid kx
            have HFX := Lib.hid hfx
            obtain ⟨LN, hLN⟩ : ∃ LN, nx.1.length = LN := ⟨_, rfl⟩
            rw [hLN] at hnx
            have HLN := Lib.hid hLN
            have HRD := Lib.hid (read_any tp svx fx nx stx wx HT.out)
            clear hLN hti tx kx hfx HL4 HA4 HB4 BO LO HLR HKP HSEP HFS HPI HGO HBL hst hfl
            go_wp2_with fail
            with_reducible refine HRD.out.mono ?_
            rintro e w7 ⟨v7, rfl, hr7, hb7, _⟩
            obtain ⟨A7, c7, rfl, hc71, hc72, hr7'⟩ := rd_slice hr7 HLN.out
            have HT7 := Lib.hid (HT.out.below hb7 (Nat.le_refl _))
            have hz7 : B ≤ w7.heap.size := Nat.le_trans hzx hb7.size
            have HB7 := Lib.hid (HBX.out.trans (hb7.mono hzx))
            have HR7 := Lib.hid hr7'
            clear hr7 hr7' hb7 HT HRD HBX
            go_wp2_with fail
            with_reducible refine (open_any HT7.out (by omega) (HR.out.below HB7.out h0) (by omega)).mono ?_
            intro e w8 hd
            obtain ⟨lp8, sv8, rv8, l8, rfl, hlp8, hl8, hd8, hk8, hb8, hrv8⟩ := op_kept KT.out hz7 hd
            have hz8 : B ≤ w8.heap.size := Nat.le_trans hz7 hb8.size
            have HB8 := Lib.hid (HB7.out.trans hb8)
            have hs8 : Sl w8 w8.heap.size 1 A7 LN (bts nx.1) := (by
              have hm8 := OpPost.moves hd
              obtain ⟨_, _, hv, _, _, hs⟩ := (HR7.out.moves hm8 (fun k cur _ hk hx => tape_tag HT7.out hx hk (by decide) (by decide))).sl
              rw [bts_len, HLN.out] at hv hs
              cases hv
              exact hs)
            have hrv8' : ∀ x, rv8.ownBlock = some x → x < w8.heap.size := fun x hx => (own_cells hl8.recs.own hx).2.1
            have HG8 := Lib.hid hl8
            have HD8 := Lib.hid hd8
            have HK8 := Lib.hid hk8
            have HRV8 := Lib.hid hrv8'
            have HSC := Lib.hid (rscan_any A7 nx.1 LN c7 HLN.out w8 hc71 hc72 (by omega) hs8)
            clear hd hl8 hd8 hk8 hb8 hs8 hrv8 hrv8' HR7 HT7 HB7
            go_wp2_with fail
            with_reducible refine HSC.out.mono ?_
            rintro e w9 ⟨v9, l9, rfl, hr9, hd9, hb9⟩
            obtain ⟨M9, hM9⟩ : ∃ M9, l9.length = M9 := ⟨_, rfl⟩
            obtain ⟨A9, c9, rfl, _, _, _, _⟩ := recs_slice hr9 hM9
            have hFl : (framesF ckW (scanW ckW nx.1)).length ≤ LN := by rw [← HLN.out]; exact (scanW_take nx.1).2
            have HP9 : Hid (PI w w B (k + 1) (.pointer (some ⟨tp, 0, none⟩)) (.pointer (some ⟨lp8, 0, none⟩)) (.slice A9 M9 c9) (.int .i64 (M9 : Nat)) w9) := Lib.hid
              ⟨⟨tp, lp8, M9, sv8, rv8, fx, _, _, l8, l9, rfl, rfl, rfl, (by have := HG8.out.below hb9 (Nat.le_refl _); rw [show l8.length = M9 from by rw [dat_len HD8.out, ← dat_len hd9]; exact hM9] at this; rw [hd9]; exact this), by rw [HD8.out, hd9], HK8.out,
                ⟨own_low hr9.own hz8, (fun p hp => .inl (hr9.rd p hp)), (fun p hp => scanW_good nx.1 _ (by rw [← hd9]; exact List.mem_map_of_mem hp))⟩, (fun x hx hy => by
                  have h1 := (own_cells hr9.own hx).1
                  have h2 := HRV8.out x hy
                  omega), by simp; omega, (fun s hs => by
                  rcases List.mem_cons.1 hs with rfl | hs
                  · exact Nat.le_trans (HFX.out _ (by simp)) (by omega)
                  · rcases List.mem_append.1 hs with hs | hs
                    · exact Nat.le_trans (HFX.out _ (by simp [hs])) (by omega)
                    · rw [List.mem_singleton] at hs
                      subst hs
                      simp only
                      omega), by rw [hd9]; omega⟩, HB8.out.trans (hb9.mono hz8), Nat.le_of_eq HBB.out, Nat.le_of_eq HBB.out.symm⟩
            clear hr9 hd9 hb9 hM9 HG8 HD8 HK8 HRV8 HSC HB8 HFX KT
            go_wp2_with fail
            go_meet
            case rel => exact HP9.out
          · have e8 : (o.k == 5) = false := by simp [k5]
            clear k1 k2 k3 k4 k5
            go_wp2_with fail
            go_meet
            case rel => exact HPI.out.next (by omega) (LO.out.mono hzB) LO.out
        case rest =>
          clear co0 co1 co2 co3 BO LO HGO HL4 HA4 HB4 HPI HLR HKP HSEP HFS HBL HO hst hfl hzo hz hzB hgoB e1 e2 e3 e3' hbig
          have hpb := hcut.bel
          have hzc : B ≤ wc.heap.size := by have := hpb.size; rw [HBB.out] at this; exact this
          obtain ⟨tq, lq, sq, sv, rv, f, sf, st, lr, la, rfl, rfl, rfl, hlog, hlr, hkp, hal, hsep, hst, hfs, hfl⟩ := hcut.ex
          have hlal : la.length ≤ 5006 * (k + 1) := by have := tot_len la; unfold tot at this; omega
          have hlrl : lr.length = la.length := by rw [dat_len hlr, List.length_map]
          obtain ⟨K, hK⟩ : ∃ K, la.length = K := ⟨_, rfl⟩
          rw [hK] at hlal hlrl
          obtain ⟨Av, cv, rfl, _, _, hsv⟩ := hal.slice hK
          have HK := Lib.hid hK
          have HPI := Lib.hid hcut
          have HAL := Lib.hid hal
          have HLG := Lib.hid hlog
          have HLR := Lib.hid hlr
          have hrcs := records_any hlog (by omega) (fun p hp => by
            have : dat p ∈ lr.map dat := List.mem_map_of_mem hp
            rw [hlr] at this
            obtain ⟨q, hq, he⟩ := List.mem_map.1 this
            have := (hal.ok q hq).2
            rw [he] at this
            exact this)
          have HRCS := Lib.hid hrcs
          have HBL := Lib.hid hpb
          clear hK hsv hcut hal hlog hlr hrcs hpb hkp hsep hfs hst
          go_wp2_with fail
          with_reducible refine HRCS.out.mono ?_
          rintro e w5 ⟨v5, l5, rfl, hr5, hd5, hb5⟩
          have hl50 : l5.length = K := by rw [dat_len hd5, List.length_map]; exact hlrl
          obtain ⟨A5, c5, rfl, _, _, hs5, hg5⟩ := recs_slice hr5 hl50
          have ha5 := HAL.out.below hb5 (by rw [HBB.out]; exact hzc)
          have hz5 : B ≤ w5.heap.size := Nat.le_trans hzc hb5.size
          obtain ⟨Av', cv', hv', _, _, hsv5⟩ := ha5.slice HK.out
          cases hv'
          have hsm := rsame_any A5 Av l5 la K K c5 cv hl50 HK.out w5 (by omega) (by omega) hs5 hsv5 hg5 (ha5.good (by rw [HBB.out]; exact hz5))
          rw [decide_eq_true (by rw [hd5, HLR.out])] at hsm
          have HSM := Lib.hid hsm
          have HB5 := Lib.hid hb5
          clear hr5 hd5 hb5 hs5 hg5 ha5 hsv5 hsm
          go_wp2_with fail
          with_reducible refine HSM.out.mono ?_
          rintro e w6 ⟨rfl, hb6⟩
          have HB6 := Lib.hid (step_b HB5.out hb6)
          have HLG6 := Lib.hid (HLG.out.below HB6.out (Nat.le_refl _))
          have HAL6 := Lib.hid (HAL.out.below HB6.out (by rw [HBB.out]; exact hzc))
          have hz6 : B ≤ w6.heap.size := Nat.le_trans hzc HB6.out.size
          obtain ⟨F, hF⟩ : ∃ F, framesF ckW (la.map dat) = F := ⟨_, rfl⟩
          have HFe := Lib.hid hF
          rw [hF] at HLG6 hfl
          obtain ⟨m, hm⟩ : ∃ m, F.length = m := ⟨_, rfl⟩
          have HMm := Lib.hid hm
          have HLGc := Lib.hid HLG.out
          clear hb6 HSM HB5 hF hm HLG
          go_wp2_with fail
          with_reducible refine (read_any tq sv f (F, sf) st w6 HLG6.out.tape).mono ?_
          rintro e w7 ⟨v7, rfl, hr7, hb7, _⟩
          obtain ⟨A7, c7, rfl, hc71, hc72, hr7'⟩ := rd_slice hr7 HMm.out
          have HAL7 := Lib.hid (HAL6.out.below hb7 (by rw [HBB.out]; exact hz6))
          have hz7 : B ≤ w7.heap.size := Nat.le_trans hz6 hb7.size
          obtain ⟨Av', cv', hv', _, _, hsv7⟩ := HAL7.out.slice HK.out
          cases hv'
          have hfr := rframes_any Av la K cv HK.out w7 (by omega) hsv7 (HAL7.out.good (by rw [HBB.out]; exact hz7)) (fun p hp => (HAL7.out.ok p hp).2)
          rw [HFe.out, HMm.out] at hfr
          have HFR := Lib.hid hfr
          have HR7 := Lib.hid hr7'
          have HB7 := Lib.hid (step_b HB6.out hb7)
          clear hr7 hr7' hb7 hsv7 hfr HAL6
          go_wp2_with fail
          with_reducible refine HFR.out.mono ?_
          rintro e w8 ⟨v8, rfl, ho8, hb8⟩
          obtain ⟨A8, c8, rfl, _, _, hs8⟩ := own_sl ho8
          have hs7 : Sl w8 w8.heap.size 1 A7 m (bts F) := (by
            obtain ⟨_, _, hv, _, _, hs⟩ := (HR7.out.below hb8 (Nat.le_refl _)).sl
            rw [bts_len, HMm.out] at hv hs
            cases hv
            exact hs)
          have hst2 := same02_at A7 A8 F F m m c7 c8 HMm.out HMm.out w8 hs7 hs8
          rw [decide_eq_true rfl] at hst2
          have HST2 := Lib.hid hst2
          have HB8 := Lib.hid (step_b HB7.out hb8)
          clear ho8 hs8 hs7 hst2 hb8 HFR HR7 HB7
          go_wp2_with fail
          with_reducible refine HST2.out.mono ?_
          rintro e w9 ⟨rfl, hb9⟩
          have HB9 := Lib.hid (step_b HB8.out hb9)
          have HLG9 := Lib.hid (HLGc.out.below HB9.out (Nat.le_refl _))
          clear hb9 HST2 HB8
          go_wp2_with fail
          with_reducible refine (synced_any HLG9.out).mono ?_
          rintro e w10 ⟨rfl, rfl⟩
          go_wp2_with fail
          go_roundw
          case rel => exact ⟨k + 1, by omega, by omega, by go_num, HPI.out.next (Nat.le_refl _) (HB9.out.mono hzc) HB9.out⟩
          case measure => simp [intOf]; omega
    · have HBL2 := Lib.hid hpb
      rcases Nat.lt_or_ge k l.length with h1 | h1
      · have e2 : (k : Int) < (l.length : Int) := by omega
        have h60 : ¬ k < 40 := fun h => hlt ⟨h1, h⟩
        have e3 : decide ((k : Int) < 40) = false := by simp; omega
        clear hlt hlog hlr hkp hal hsep hfs hpi hpb
        go_wp2_with fail
        go_ret
        exact ⟨rfl, by rw [HBB.out]; exact HBL2.out⟩
      · have e2 : decide ((k : Int) < (l.length : Int)) = false := by simp; omega
        clear hlog hlr hkp hal hsep hfs hpi hpb hlt
        go_wp2_with fail
        go_ret
        exact ⟨rfl, by rw [HBB.out]; exact HBL2.out⟩
end Go.Proofs.YtpmmojjffjpmbaaDoor

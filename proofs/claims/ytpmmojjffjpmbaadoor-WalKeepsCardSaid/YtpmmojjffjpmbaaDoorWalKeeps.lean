/- What this text proves: the contract of the law WalKeeps. The conditions are how the arguments lie in memory, and that the package's table is as its text lays it. -/
import Derived.Test.YtpmmojjffjpmbaaDoorWalKp
import Derived.Deep.RegionLaw
import Derived.Deep.CutBlock
import Derived.Deep.DeepCutAuto
namespace Go.Proofs.YtpmmojjffjpmbaaDoor
open Go.RowKit
set_option linter.unusedVariables false
set_option linter.unusedSimpArgs false

/-- How the k-th operation lies. -/
theorem op_at {w : World} {A : Option Addr} {l : List OpV} {k : Nat} {o : OpV} (h : Sl w w.heap.size 4 A l.length (l.flatMap OpV.cells)) (hk : l[k]? = some o) :
    ∃ b off, A = some ⟨b, off, none⟩ ∧ b < w.heap.size ∧ w.cell? ⟨b, off + k * 4, none⟩ = some (.int .i64 o.k) ∧ w.cell? ⟨b, off + k * 4 + 1, none⟩ = some (.int .i64 o.n) ∧ w.cell? ⟨b, off + k * 4 + 2, none⟩ = some (.int .i64 o.m) ∧ w.cell? ⟨b, off + k * 4 + 3, none⟩ = some (.slice o.A o.b.length o.c) := by
  have hl : k < l.length := (List.getElem?_eq_some_iff.1 hk).1
  obtain ⟨b, off, hA, hb, hc⟩ := h.at_ (by omega)
  have g := fun j (hj : j < 4) => flat_get OpV.cells (s := 4) (fun _ => rfl) l k o j hk hj
  refine ⟨b, off, hA, hb, ?_, ?_, ?_, ?_⟩
  · exact hc (k * 4) _ (by have := g 0 (by omega); simpa [OpV.cells] using this)
  · rw [Nat.add_assoc]; exact hc (k * 4 + 1) _ (by have := g 1 (by omega); simpa [OpV.cells] using this)
  · rw [Nat.add_assoc]; exact hc (k * 4 + 2) _ (by have := g 2 (by omega); simpa [OpV.cells] using this)
  · rw [Nat.add_assoc]; exact hc (k * 4 + 3) _ (by have := g 3 (by omega); simpa [OpV.cells] using this)

set_option maxRecDepth 100000 in
set_option maxHeartbeats 16000000 in
theorem keeps_walk (A : Option Addr) (l : List OpV) (c : Nat) (hl : l.length ≤ c) (hcm : c ≤ maxLen) {w : World} (hA : Sl w w.heap.size 4 A l.length (l.flatMap OpV.cells)) (hg : ∀ o ∈ l, OpV.good w o) (o : OpV) (ho : OpV.good w o)
    (A' : Option Addr) (l' : List UInt8) (c' : Nat) (hlc' : l'.length ≤ c') (hcm' : c' ≤ maxLen) (hA' : Sl w w.heap.size 1 A' l'.length (bts l')) (_ : World) (hr : Roots w ∧ 0 < w.heap.size) :
    Calls Tryd.prog 7 #[.slice A l.length c, .agg o.cells.toArray, .slice A' l'.length c'] w fun e w' => e = .returned (.bool true) ∧ Below w.heap.size w w' := by
  rw [show o.cells.toArray = #[.int .i64 o.k, .int .i64 o.n, .int .i64 o.m, .slice o.A o.b.length o.c] from rfl]
  obtain ⟨i0, hi, hz0, hz1, hz2⟩ := info_parts info_int
  have h0 := hr.2
  have HS := Lib.hid hA
  have HG := Lib.hid hg
  have HO := Lib.hid ho
  have HA' := Lib.hid hA'
  have hRw := hr.1
  unfold maxLen at hcm hcm'
  clear hr hA hg ho hA'
  go_enter Tryd.func7, Tryd.ntmps7
  go_wp2_with fail
  have hbk := Bk.new w 43 #[.int .i64 o.k, .int .i64 o.n, .int .i64 o.m, .slice o.A o.b.length o.c]
  have hb0 : Below w.heap.size w (w.alloc (.cells #[.int .i64 o.k, .int .i64 o.n, .int .i64 o.m, .slice o.A o.b.length o.c] 43)) := (by (first | assumption | (repeat (first | exact Below.refl _ _ | assumption | apply Below.drew | apply below_drewN | (refine Below.setCell ?_ (by (try simp) <;> omega) _) | (refine Below.alloc ?_ (by (try simp) <;> omega) _)))))
  have hz0' : (w.alloc (.cells #[.int .i64 o.k, .int .i64 o.n, .int .i64 o.m, .slice o.A o.b.length o.c] 43)).heap.size = w.heap.size + 1 := by simp
  obtain ⟨g0, hg0⟩ : ∃ x, w.heap.size = x := ⟨_, rfl⟩
  obtain ⟨w0, hw0⟩ : ∃ x, w.alloc (.cells #[.int .i64 o.k, .int .i64 o.n, .int .i64 o.m, .slice o.A o.b.length o.c] 43) = x := ⟨_, rfl⟩
  rw [hw0] at hbk hb0 hz0' ⊢
  rw [hg0] at hbk hb0 hz0' h0 ⊢
  have HGW := Lib.hid hg0
  have HBK := Lib.hid hbk
  have HB0 := Lib.hid hb0
  have hR0 := hRw.below hb0 h0
  clear hw0 hg0 hbk hb0 hRw
  with_reducible refine (tnew_any w0).mono ?_
  rintro e w1 ⟨rfl, hb1, hlt, ht1⟩
  obtain ⟨B, hB⟩ : ∃ B, w0.heap.size = B := ⟨_, rfl⟩
  rw [hB] at hb1 hlt ht1 hz0' ⊢
  have hBg : g0 < B := by omega
  have HBB := Lib.hid hB
  have HT1 := Lib.hid ht1
  have HL1 := Lib.hid hb1
  have h0B : 0 < B := by omega
  have HR := Lib.hid (fun (W : World) (hW : Below B w0 W) => hR0.below hW h0B)
  clear ht1 hB hb1 hR0 hz0'
  go_wp2_with fail
  with_reducible refine (open_any HT1.out (by simp) (HR.out w1 HL1.out) (by omega)).mono ?_
  intro e w2 hd
  obtain ⟨lp, sv2, rv2, l2, rfl, hlp, hl2, hd2, hk2, hb2, hrv2⟩ := op_kept (B := B) ⟨Nat.le_refl _, fun k h => by cases h⟩ (by omega) hd
  have HL2 := Lib.hid (HL1.out.trans hb2)
  rw [show scanW ckW ([] : List UInt8) = [] from rfl] at hl2 hd2
  have hl20 : l2.length = 0 := dat_len hd2
  have hz2' := hb2.size
  have HG2 := Lib.hid hl2
  have HK2 := Lib.hid hk2
  have HD2 := Lib.hid hd2
  clear hd hl2 hk2 hd2 hb2 hrv2
  go_wp2_with fail
  with_reducible refine (walive_any w2 (HR.out w2 HL2.out) (by omega)).mono ?_
  rintro e w3 ⟨rfl, hb3⟩
  have hz3 := hb3.size
  have HG3 := Lib.hid (HG2.out.below hb3 (Nat.le_refl _))
  have HL3 := Lib.hid (HL2.out.trans (hb3.mono (by omega)))
  clear hb3 HG2 HL2
  go_wp2_with fail
  have hca : Calls Tryd.prog 22 #[.pointer (some ⟨B, 0, none⟩)] w3 fun e w' => e = .returned (.int .i64 1) ∧ Below w3.heap.size w3 w' := calls_any B sv2 _ _ _ w3 HG3.out.tape
  with_reducible refine hca.mono ?_
  rintro e w4 ⟨rfl, hb4⟩
  have hz4 := hb4.size
  have HG4 := Lib.hid (HG3.out.below hb4 (Nat.le_refl _))
  have HL4 := Lib.hid (HL3.out.trans (hb4.mono (by omega)))
  clear hb4 HG3 HL3 HL1 HT1
  clear hca
  go_upto_block 0 with fail
  have z4 : B ≤ w4.heap.size := by omega
  have O5 := own_one w4 (.int .i64 1)
  have L5 : Below w4.heap.size w4 (w4.alloc (.cells #[.int .i64 1] 3)) := (by (first | assumption | (repeat (first | exact Below.refl _ _ | assumption | apply Below.drew | apply below_drewN | (refine Below.setCell ?_ (by (try simp) <;> omega) _) | (refine Below.alloc ?_ (by (try simp) <;> omega) _)))))
  obtain ⟨w5, hw5⟩ : ∃ x, w4.alloc (.cells #[.int .i64 1] 3) = x := ⟨_, rfl⟩
  have z5 : w5.heap.size = w4.heap.size + 1 := by rw [← hw5]; simp
  rw [hw5] at O5 L5 ⊢
  have O6 := own_one w5 (.int .i64 0)
  have L6 : Below w5.heap.size w5 (w5.alloc (.cells #[.int .i64 0] 3)) := (by (first | assumption | (repeat (first | exact Below.refl _ _ | assumption | apply Below.drew | apply below_drewN | (refine Below.setCell ?_ (by (try simp) <;> omega) _) | (refine Below.alloc ?_ (by (try simp) <;> omega) _)))))
  obtain ⟨w6, hw6⟩ : ∃ x, w5.alloc (.cells #[.int .i64 0] 3) = x := ⟨_, rfl⟩
  rw [hw6] at O6 L6 ⊢
  have O56 := own_bl O5 L6
  obtain ⟨gc, hgc⟩ : ∃ x, w4.heap.size = x := ⟨_, rfl⟩
  have e5 : w5.heap.size = gc + 1 := by omega
  rw [hgc] at O56 z4 ⊢
  rw [e5] at O6
  have L46 : Below w4.heap.size w4 w6 := L5.trans (L6.mono (by omega))
  have HKR : Hid (KR B [(1, 0)] (.slice (some ⟨gc, 0, none⟩) 1 1) (.slice (some ⟨gc + 1, 0, none⟩) 1 1) w6) := Lib.hid ⟨own_low O56 z4, own_low O6 (by omega), fun x hx hy => by
    simp only [Value.ownBlock, Option.some.injEq] at hx hy
    omega⟩
  have HKJ : Hid (KJ w0 B lp [(1, 0)] 0 sv2 rv2 [([], 0)] l2 [] ([], 0) 0 w6) := Lib.hid
    ⟨by have := HG4.out.below L46 (Nat.le_refl _); rw [hl20] at this; exact this, HD2.out, HK2.out, Hist.start, Nat.le_refl _, Nat.le_refl _, HL4.out.trans (L46.mono (by omega))⟩
  have z6 : B ≤ w6.heap.size := by have := L46.size; omega
  clear hw5 hw6 O5 L5 O6 L6 O56 L46 z5 hgc HG4 HL4 HK2 HD2 hz4 hz3 hz2' hl20
  go_cut [11, 12, 13] (fun vc vs i wx => ∃ (N : List (Nat × Nat)) (sv rv : Value) (st : List StepV) (lr : List Part) (ls : List (List UInt8)) (n : StepV) (syn : Nat), KJ w0 B lp N 40 sv rv st lr ls n syn wx ∧ KR B N vc vs wx ∧ N.length ≤ 41)
  case first =>
    go_wp2_with fail
    go_loopw [11, 12, 13] (fun vc vs i wr => ∃ (k : Nat) (N : List (Nat × Nat)) (sv rv : Value) (st : List StepV) (lr : List Part) (ls : List (List UInt8)) (n : StepV) (syn : Nat), k ≤ 40 ∧ k ≤ l.length ∧ i = .int .i64 k ∧ KJ w0 B lp N k sv rv st lr ls n syn wr ∧ KR B N vc vs wr ∧ N.length ≤ k + 1) (fun _ _ i _ => 40 - (intOf i).toNat)
    case atStart => exact ⟨0, _, _, _, _, _, _, _, _, by omega, by omega, rfl, HKJ.out, HKR.out, Nat.le_refl _⟩
    case round =>
      obtain ⟨k, N, sv, rv, st, lr, ls, n, syn, hk, hkl, rfl, hkj, hkr, hN⟩ := hrel
      have hzB : B ≤ wr.heap.size := by have := hkj.bel.size; rw [HBB.out] at this; exact this
      have hstl := hkj.stl
      have hfl := hkj.fl
      have HJ := Lib.hid hkj
      have HK := Lib.hid hkr
      clear hkj hkr HKJ HKR z4 z6 e5
      by_cases hlt2 : k < l.length ∧ k < 40
      · obtain ⟨hk1, hk2⟩ := hlt2
        have e1 : (k : Int) < (l.length : Int) := by omega
        have e2 : (k : Int) < 40 := by omega
        obtain ⟨o', ho'⟩ : ∃ o, l[k]? = some o := ⟨_, List.getElem?_eq_getElem hk1⟩
        have hgo := HG.out o' (List.mem_of_getElem? ho')
        have hbw : Below w.heap.size w wr := by rw [HGW.out]; exact HB0.out.trans (HJ.out.bel.mono (by omega))
        obtain ⟨b, off, rfl, hb, c0, c1, c2, c3⟩ := op_at ((HS.out.below hbw).more hbw.size) ho'
        have HO' := Lib.hid hgo
        have HBW := Lib.hid hbw
        clear ho' hgo hbw
        by_cases hbig : 5000 < o'.b.length
        · have e3 : decide ((o'.b.length : Int) ≤ 5000) = false := by simp; omega
          have e3' : decide (5000 < (o'.b.length : Int)) = true := by simp; omega
          go_wp2_with fail
          go_roundw
          case rel => exact ⟨k + 1, N, sv, rv, st, lr, ls, n, syn, by omega, by omega, by go_num, HJ.out.below (Below.refl _ _) hzB (by omega), HK.out, by omega⟩
          case measure => simp [intOf]; omega
        have e3 : decide ((o'.b.length : Int) ≤ 5000) = true := by simp; omega
        have e3' : decide (5000 < (o'.b.length : Int)) = false := by simp; omega
        go_upto_if 71 with fail
        go_cut [11] (fun vc' wx => vc' = u11 ∧ ∃ (sv rv : Value) (st : List StepV) (lr : List Part) (ls : List (List UInt8)) (n : StepV) (syn : Nat), KJ w0 B lp (N ++ [(st.length, syn)]) (k + 1) sv rv st lr ls n syn wx ∧ KR B N u11 u12 wx)
        case first =>
          by_cases k2 : o'.k = 2
          · have e4 : (o'.k == 2) = true := by simp [k2]
            clear k2
            have HSY := Lib.hid (lsync_any HJ.out.log (by omega))
            go_wp2_with fail
            with_reducible refine HSY.out.mono ?_
            intro e wx hd
            have he : e = .returned (.int .i64 0) := by obtain ⟨_, _, _, he, _⟩ := hd; exact he
            subst he
            have HX := Lib.hid (kj_sync HJ.out hzB HK.out hd)
            clear hd HSY
            go_wp2_with fail
            go_meet
            case rel =>
              obtain ⟨sv', rv', lr', h1, h2⟩ := HX.out
              exact ⟨rfl, sv', rv', st ++ [(n.1, n.1.length)], lr', ls, (n.1, n.1.length), ls.length, by rw [List.length_append]; exact h1, h2⟩
          · have e4 : (o'.k == 2) = false := by simp [k2]
            clear k2
            obtain ⟨L, hL⟩ : ∃ L, o'.b.length = L := ⟨_, rfl⟩
            rw [hL] at e3 e3' hbig c3
            have HLb := Lib.hid hL
            clear hL
            by_cases hgd : 0 < L ∧ L ≤ 4096
            · obtain ⟨hg1, hg2⟩ := hgd
              have hgr : goodR o'.b := ⟨by rw [HLb.out]; exact hg1, by rw [HLb.out]; exact hg2⟩
              have hsB : Sl wr B 1 o'.A o'.b.length (bts o'.b) := (HO'.out.sl.below HBW.out).more (by rw [HGW.out]; omega)
              have hnl : n.1.length ≤ 4102 * k := by rw [HJ.out.hist.now]; exact hfl
              have hlrl : lr.length ≤ 4102 * k := by
                have h1 := tot_len lr
                unfold tot at h1
                rw [HJ.out.dat] at h1
                omega
              have HAP := Lib.hid (lappend_any HJ.out.log (by omega) (by omega) (HR.out wr HJ.out.bel) (by omega) o'.A o'.b L o'.c HLb.out hgr ⟨HO'.out.le, HO'.out.cap, hsB.more hzB⟩ (low_stays HJ.out.kept.tape hzB hsB) (by rw [HLb.out]; omega))
              have HGR := Lib.hid hgr
              clear hsB hgr
              go_wp2_with fail
              with_reducible refine HAP.out.mono ?_
              intro e wx hd
              have he : e = .returned (.int .i64 0) := by obtain ⟨_, _, _, he, _⟩ := hd; exact he
              subst he
              have HX := Lib.hid (kj_app HJ.out hzB HK.out HGR.out hd)
              clear hd HAP
              go_wp2_with fail
              go_meet
              case rel =>
                obtain ⟨sv', rv', lr', h1, h2⟩ := HX.out
                exact ⟨rfl, sv', rv', st ++ [(n.1 ++ frameF ckW o'.b, n.2)], lr', ls ++ [o'.b], (n.1 ++ frameF ckW o'.b, n.2), syn, by rw [List.length_append]; exact h1, h2⟩
            · have HBA := Lib.hid (lappend_bad (w := wr) (lp := lp) o'.A L o'.c (by unfold maxLen; omega) (by omega))
              clear hgd
              go_wp2_with fail
              with_reducible refine HBA.out.mono ?_
              rintro e wx ⟨rfl, rfl⟩
              go_wp2_with fail
              go_meet
              case rel =>
                exact ⟨rfl, sv, rv, st, lr, ls, n, syn, { HJ.out.below (k' := k + 1) (Below.refl _ _) hzB (by omega) with hist := HJ.out.hist.same }, HK.out⟩
        case rest =>
          obtain ⟨rfl, sv', rv', st', lr', ls', n', syn', hj, hr⟩ := hcut
          clear HJ HK c0 c1 c2 c3 hbig e3 e3' hb hstl hfl HO' HBW hzB
          have hzc : B ≤ wc.heap.size := by have := hj.bel.size; rw [HBB.out] at this; exact this
          have HJ := Lib.hid hj
          have HK := Lib.hid hr
          have hcl := calls_any B sv' _ _ st' wc hj.log.tape
          have HCL := Lib.hid hcl
          have hstl := hj.stl
          clear hj hr hcl
          go_wp2_with fail
          with_reducible refine HCL.out.mono ?_
          rintro e w5 ⟨rfl, hb5⟩
          have HJ5 := Lib.hid (HJ.out.below hb5 hzc (Nat.le_refl _))
          have HK5 := Lib.hid (HK.out.below hb5)
          have hz5 : B ≤ w5.heap.size := Nat.le_trans hzc hb5.size
          clear hb5 HJ HK HCL
          go_upto_region 16 with (at_builtin; go_loud (refine wpList_append_sl (w5.alloc (.cells #[.int .i64 (st'.length : Nat)] 3)) (by rfl) _ _ 48 (by rfl) B 3 i0 _ 1 8 Tryd.underlying48 hi hz0 hz1 hz2 rfl (by omega) u11 N.length (c1s N) (by rfl) (HK5.out.calls.alloc _) (some ⟨w5.heap.size, 0, none⟩) 1 1 [.int .i64 (st'.length : Nat)] (by rfl) ⟨rfl, fun _ => ⟨w5.heap.size, 0, rfl, by simp, fun j u hu => by rw [Nat.zero_add, (Bk.new w5 3 #[.int .i64 (st'.length : Nat)]).cell, List.getElem?_toArray]; exact hu⟩⟩ (by simp [Value.oneCell']) (by unfold maxLen; omega) (by omega) (by simp; omega) ?_; intro v6 w6 ho_ hg_ hv_; have HG6 := Lib.hid (And.intro ho_ (And.intro hg_ hv_)); clear ho_ hg_ hv_))
          obtain ⟨ho6, hg6, hv6⟩ := HG6.out
          have hm6 := grow_moves hg6
          have HJ6 := Lib.hid (HJ5.out.imoves hz5 HK5.out.calls hm6)
          have hs6 : w6.ownsRow B 3 1 u12 N.length (c2s N) := own_moves HK5.out.sure hm6 (fun x cur hx _ e => HK5.out.sep x e.symm hx)
          have hsep6 : ∀ x, v6.ownBlock = some x → u12.ownBlock ≠ some x := fun x hx hy => by
            rcases hv6 with h | h
            · exact HK5.out.sep x (h ▸ hx) hy
            · have h1 := (own_cells HK5.out.sure hy).2.1
              rw [hx] at h
              injection h with h
              rw [h] at h1
              simp at h1
              omega
          have hz6 : B ≤ w6.heap.size := Nat.le_trans hz5 hm6.size
          have HO6 := Lib.hid (And.intro ho6 (And.intro hs6 hsep6))
          have HSY := Lib.hid (synced_any HJ6.out.log)
          clear HG6 ho6 hg6 hv6 hm6 hs6 hsep6 HJ5 HK5
          go_wp2_with fail
          with_reducible refine HSY.out.mono ?_
          rintro e w7 ⟨rfl, rfl⟩
          go_wp2_with (at_builtin; go_loud (refine wpList_append_sl (w6.alloc (.cells #[.int .i64 (syn' : Nat)] 3)) (by rfl) _ _ 48 (by rfl) B 3 i0 _ 1 8 Tryd.underlying48 hi hz0 hz1 hz2 rfl (by omega) u12 N.length (c2s N) (by rfl) (HO6.out.2.1.alloc _) (some ⟨w6.heap.size, 0, none⟩) 1 1 [.int .i64 (syn' : Nat)] (by rfl) ⟨rfl, fun _ => ⟨w6.heap.size, 0, rfl, by simp, fun j u hu => by rw [Nat.zero_add, (Bk.new w6 3 #[.int .i64 (syn' : Nat)]).cell, List.getElem?_toArray]; exact hu⟩⟩ (by simp [Value.oneCell']) (by unfold maxLen; omega) (by omega) (by simp; omega) ?_; intro v8 w8 ho_ hg_ hv_; have HG8 := Lib.hid (And.intro ho_ (And.intro hg_ hv_)); clear ho_ hg_ hv_))
          go_roundw
          case rel =>
            obtain ⟨ho8, hg8, hv8⟩ := HG8.out
            obtain ⟨ho6, hs6, hsep6⟩ := HO6.out
            have hm8 := grow_moves hg8
            refine ⟨k + 1, N ++ [(st'.length, syn')], sv', rv', st', lr', ls', n', syn', by omega, by omega, by go_num, HJ6.out.imoves hz6 hs6 hm8, ⟨?_, ?_, fun x hx hy => ?_⟩, by simp; omega⟩
            · have := own_moves ho6 hm8 (fun x cur hx _ e => hsep6 x hx e.symm)
              rw [List.length_append]
              simpa [c1s] using this
            · rw [List.length_append]
              simpa [c2s] using ho8
            · rcases hv8 with h | h
              · exact hsep6 x hx (h ▸ hy)
              · have h1 := (own_cells ho6 hx).2.1
                rw [hy] at h
                injection h with h
                rw [h] at h1
                simp at h1
                omega
          case measure => simp [intOf]; omega
      · rcases Nat.lt_or_ge k l.length with h1 | h1
        · have e2 : (k : Int) < (l.length : Int) := by omega
          have h60 : ¬ k < 40 := fun h => hlt2 ⟨h1, h⟩
          have e3 : decide ((k : Int) < 40) = false := by simp; omega
          clear hlt2
          go_wp2_with fail
          go_meet
          case rel => exact ⟨N, sv, rv, st, lr, ls, n, syn, HJ.out.below (Below.refl _ _) hzB (by omega), HK.out, by omega⟩
        · have e2 : decide ((k : Int) < (l.length : Int)) = false := by simp; omega
          clear hlt2
          go_wp2_with fail
          go_meet
          case rel => exact ⟨N, sv, rv, st, lr, ls, n, syn, HJ.out.below (Below.refl _ _) hzB (by omega), HK.out, by omega⟩
  case rest =>
    clear HKJ HKR e5
    obtain ⟨N, sv, rv, st, lr, ls, n, syn, hkj, hkr, hN⟩ := hcut
    have hzc : B ≤ wc.heap.size := by have := hkj.bel.size; rw [HBB.out] at this; exact this
    have hstl := hkj.stl
    have hfl := hkj.fl
    have hlsl : ls.length ≤ 4102 * 40 := by
      have h1 := tot_len lr
      have h2 : lr.length = ls.length := by rw [← hkj.dat, List.length_map]
      unfold tot at h1
      rw [hkj.dat] at h1
      omega
    have hlrl : lr.length = ls.length := by rw [← hkj.dat, List.length_map]
    have hst1 : 0 < st.length := List.length_pos_iff.2 hkj.hist.last.1
    have hrl : ∀ p ∈ lr, p.2.2.length ≤ 4096 := fun p hp => (hkj.hist.good (dat p) (by rw [← hkj.dat]; exact List.mem_map_of_mem hp)).2
    have HRCS := Lib.hid (records_any hkj.log (by omega) hrl)
    have HJ := Lib.hid hkj
    have HK := Lib.hid hkr
    have hbc : wc.cell? ⟨g0, 1, none⟩ = some (.int .i64 o.n) := by rw [(HBK.out.below hkj.bel (by omega)).cell 1]; rfl
    have hbc2 : wc.cell? ⟨g0, 2, none⟩ = some (.int .i64 o.m) := by rw [(HBK.out.below hkj.bel (by omega)).cell 2]; rfl
    clear hkj hkr hrl
    have hwn := bounds_i64 HO.out.n
    have hwm := bounds_i64 HO.out.m
    go_wp2_with fail
    with_reducible refine HRCS.out.mono ?_
    rintro e w5 ⟨v5, l5, rfl, hr5, hd5, hb5⟩
    obtain ⟨K, hK⟩ : ∃ K, ls.length = K := ⟨_, rfl⟩
    rw [hK] at hlsl hlrl
    have hl50 : l5.length = K := by rw [dat_len hd5, List.length_map]; exact hlrl
    rw [HJ.out.dat] at hd5
    obtain ⟨A5, c5, rfl, hc51, hc52, _, _⟩ := recs_slice hr5 hl50
    have HKe := Lib.hid hK
    have HR5 := Lib.hid hr5
    have HD5 := Lib.hid hd5
    have HJ5 := Lib.hid (HJ.out.below hb5 hzc (Nat.le_refl _))
    have HK5 := Lib.hid (HK.out.below hb5)
    have hz5 : B ≤ w5.heap.size := Nat.le_trans hzc hb5.size
    have c51 : w5.cell? ⟨g0, 1, none⟩ = some (.int .i64 o.n) := (hb5.cell (p := ⟨g0, 1, none⟩) (by simp only; omega)).trans hbc
    have c52 : w5.cell? ⟨g0, 2, none⟩ = some (.int .i64 o.m) := (hb5.cell (p := ⟨g0, 2, none⟩) (by simp only; omega)).trans hbc2
    unfold maxLen at hc52
    clear hr5 hd5 hb5 HRCS HJ HK hK hbc hbc2 hl50
    go_upto_if 96 with fail
    go_cut [15] (fun v wx => (∃ ai : Int, v = .int .i64 ai ∧ 0 ≤ ai ∧ ai ≤ 9223372036854775807) ∧ w5 = wx)
    case first =>
      by_cases hneg : o.n < 0
      · have e1 : decide (o.n < 0) = true := by simp; omega
        go_wp2_with fail
        go_meet
        case rel => exact ⟨⟨_, rfl, by omega, by omega⟩, rfl⟩
      · have e1 : decide (o.n < 0) = false := by simp; omega
        go_wp2_with fail
        go_meet
        case rel => exact ⟨⟨_, rfl, by omega, by omega⟩, rfl⟩
    case rest =>
      obtain ⟨⟨ai, rfl, hai0, hai1⟩, rfl⟩ := hcut
      have HCL := Lib.hid (calls_any B sv _ _ st w5 HJ5.out.log.tape)
      obtain ⟨S, hS⟩ : ∃ S, st.length = S := ⟨_, rfl⟩
      rw [hS] at hstl hst1 HCL
      have HSe := Lib.hid hS
      obtain ⟨r, hrr⟩ : ∃ r : Nat, ai % (S : Int) = r := ⟨(ai % (S : Int)).toNat, by have := Int.emod_nonneg ai (b := (S : Int)) (by omega); omega⟩
      have hrS : r < S := by have := Int.emod_lt_of_pos ai (b := (S : Int)) (by omega); omega
      have s3 : Int.tmod ai (S : Int) = (r : Int) := by rw [Int.tmod_eq_emod_of_nonneg hai0]; exact hrr
      have s5 : ((S : Int) == 0) = false := by simp; omega
      have s6 : ¬ (S : Int) = 0 := by omega
      have s7 : ¬ S = 0 := by omega
      have s8 : (S == 0) = false := by simp; omega
      clear hS
      go_upto_region 22 with (go_at_call 22; (with_reducible refine HCL.out.mono ?_); rintro e w6 ⟨rfl, hb6⟩)
      have HJ6 := Lib.hid (HJ5.out.below hb6 hz5 (Nat.le_refl _))
      have HK6 := Lib.hid (HK5.out.below hb6)
      have hz6 : B ≤ w6.heap.size := Nat.le_trans hz5 hb6.size
      have HR6 := Lib.hid (HR5.out.below hb6 (Nat.le_refl _))
      have c61 : w6.cell? ⟨g0, 1, none⟩ = some (.int .i64 o.n) := (hb6.cell (p := ⟨g0, 1, none⟩) (by simp only; omega)).trans c51
      have c62 : w6.cell? ⟨g0, 2, none⟩ = some (.int .i64 o.m) := (hb6.cell (p := ⟨g0, 2, none⟩) (by simp only; omega)).trans c52
      clear hb6 HJ5 HK5 HR5 c51 c52 HCL s3 s5 s6 s7 s8 hrr hai0 hai1
      obtain ⟨Ac, cc, rfl, _, _, hsc⟩ := own_sl HK6.out.calls
      obtain ⟨As, cs, rfl, _, _, hss⟩ := own_sl HK6.out.sure
      have HSC := Lib.hid hsc
      have HSS := Lib.hid hss
      obtain ⟨M, hM⟩ : ∃ M, N.length = M := ⟨_, rfl⟩
      rw [hM] at hN HSC HSS ⊢
      have HMe := Lib.hid hM
      clear hsc hss hM HK6
      go_wp2_with fail
      go_loop [16, 17] (fun lv i => ∃ (j lst : Nat), j ≤ M ∧ i = .int .i64 j ∧ lv = .int .i64 lst ∧ (lst = 0 ∨ ∃ p ∈ N, lst = p.2 ∧ p.1 ≤ 1 + r)) (fun _ i => M - (intOf i).toNat)
      case atStart => exact ⟨0, 0, Nat.zero_le _, rfl, rfl, .inl rfl⟩
      case round =>
        obtain ⟨j, lst, hj, rfl, rfl, hlst⟩ := hrel
        have HLST := Lib.hid hlst
        clear hlst
        by_cases hjl : j < M
        · have e1 : decide ((j : Int) < (M : Int)) = true := by simp; omega
          have k1 : (j : Int) < (M : Int) := by omega
          obtain ⟨p, hp⟩ : ∃ p, N[j]? = some p := ⟨_, List.getElem?_eq_getElem (by rw [HMe.out]; exact hjl)⟩
          obtain ⟨b1, o1, rfl, _, hc1⟩ := HSC.out.at_ (by omega)
          obtain ⟨b2, o2, rfl, _, hc2⟩ := HSS.out.at_ (by omega)
          have d1 : w6.cell? ⟨b1, o1 + j, none⟩ = some (.int .i64 (p.1 : Nat)) := hc1 j _ (by rw [c1s, List.getElem?_map, hp]; rfl)
          have d2 : w6.cell? ⟨b2, o2 + j, none⟩ = some (.int .i64 (p.2 : Nat)) := hc2 j _ (by rw [c2s, List.getElem?_map, hp]; rfl)
          have HP := Lib.hid (List.mem_of_getElem? hp)
          obtain ⟨p1, p2⟩ := p
          simp only at d1 d2
          clear hc1 hc2 hp
          by_cases hle : p1 ≤ 1 + r
          · have e2 : decide ((p1 : Int) ≤ 1 + (r : Int)) = true := by simp; omega
            go_wp2_with fail
            go_round
            case rel => exact ⟨j + 1, p2, by omega, by go_num, rfl, .inr ⟨(p1, p2), HP.out, rfl, hle⟩⟩
            case measure => simp [intOf]; omega
          · have e2 : decide ((p1 : Int) ≤ 1 + (r : Int)) = false := by simp; omega
            go_wp2_with fail
            go_round
            case rel => exact ⟨j + 1, lst, by omega, by go_num, rfl, HLST.out⟩
            case measure => simp [intOf]; omega
        · obtain rfl : j = M := by omega
          have e1 : decide ((j : Int) < (j : Int)) = false := by simp
          obtain ⟨p, hp⟩ : ∃ p, cutStep ([], 0) st ((1 + r : Nat) : Int) o.m = p := ⟨_, rfl⟩
          obtain ⟨q, hq1, hq2, hq3, hq4⟩ := HJ6.out.hist.cut HJ6.out.log.tape.oks (f := ([], 0)) (by omega : 1 ≤ 1 + r) (by rw [HSe.out]; omega) o.m HLST.out hp
          obtain ⟨C, hC⟩ : ∃ C, w6.heap.size = C := ⟨_, rfl⟩
          have HCU := cut_any B sv _ _ st ((1 + r : Nat) : Int) o.m w6 HJ6.out.log.tape (by rw [HSe.out]; omega) (by omega) (by omega)
          rw [hp, Int.natCast_add, Int.natCast_one] at HCU
          have HCUT := Lib.hid HCU
          have hq1' : q ≤ K := by rw [HKe.out] at hq1; exact hq1
          have hlsg := HJ6.out.hist.good
          have HLSG := Lib.hid (fun r hr => hlsg r (List.mem_of_mem_take hr) : ∀ r ∈ ls.take q, goodR r)
          have hfq : (framesF ckW (ls.take q)).length ≤ 4102 * 40 := Nat.le_trans (framesF_take_prefix ls q).length_le (by have := HJ6.out.fl; omega)
          have htq : (ls.take q).length = q := by rw [List.length_take, HKe.out]; omega
          have HTQ := Lib.hid htq
          have HQ3 := Lib.hid hq3
          have HQ4 := Lib.hid hq4
          have HCe := Lib.hid hC
          have HLB := Lib.hid HJ6.out.bel
          have hBC : B ≤ C := by omega
          have HDD := HD5
          clear HCU hp hq3 hq4 hq1 HSC HSS HLST hC htq hlsg
          go_wp2_with fail
          with_reducible refine HCUT.out.mono ?_
          intro e w7 hd
          obtain ⟨p7, rfl, ht7, hb7, hp7, hp7l, _⟩ := hd
          rw [HCe.out] at hb7 hp7
          have hz7 : C ≤ w7.heap.size := by have := hb7.size; omega
          have L7 : Hid (Below C w6 w7) := Lib.hid hb7
          have HT7 := Lib.hid ht7
          have HRC := Lib.hid (fun (W : World) (hW : Below C w6 W) => HR.out W (HLB.out.trans (hW.mono hBC)))
          have hgC : 0 < C := by omega
          clear ht7 hb7 HCUT
          go_wp2_with fail
          with_reducible refine (open_any HT7.out (by simp) (HRC.out w7 L7.out) (by omega)).mono ?_
          intro e w8 hd
          obtain ⟨lp8, sv8, rv8, l8, rfl, hlp8, hl8, hd8, hk8, hb8, _⟩ := op_kept (B := C) ⟨hp7, fun k h => by cases h⟩ hz7 hd
          rw [HQ3.out] at hl8 hd8
          have L8 : Hid (Below C w6 w8) := Lib.hid (L7.out.trans hb8)
          have hl80 : l8.length = q := by rw [dat_len hd8]; exact HTQ.out
          have HG8 := Lib.hid hl8
          have HK8 := Lib.hid hk8
          have HD8 := Lib.hid hd8
          have hz8 : C ≤ w8.heap.size := Nat.le_trans hz7 hb8.size
          clear hd hl8 hd8 hk8 hb8 L7 HT7
          have HRC8 := Lib.hid (records_any HG8.out (by omega) (fun p hp => And.right (HLSG.out (dat p) (by rw [← HD8.out]; exact List.mem_map_of_mem hp))))
          go_wp2_with fail
          with_reducible refine HRC8.out.mono ?_
          rintro e w9 ⟨v9, l9, rfl, hr9, hd9, hb9⟩
          rw [HD8.out] at hd9
          have hl90 : l9.length = q := by rw [dat_len hd9]; exact HTQ.out
          obtain ⟨A9, c9, rfl, hc91, hc92, _, _⟩ := recs_slice hr9 hl90
          have L9 : Hid (Below C w6 w9) := Lib.hid (L8.out.trans (hb9.mono hz8))
          have HR9 := Lib.hid hr9
          have HD9 := Lib.hid hd9
          have HT9 := Lib.hid (HG8.out.tape.below hb9 (Nat.le_refl _))
          obtain ⟨D, hD⟩ : ∃ D, w9.heap.size = D := ⟨_, rfl⟩
          have hCD : C ≤ D := by have := hb9.size; omega
          have HDe := Lib.hid hD
          have c91 : w9.cell? ⟨g0, 1, none⟩ = some (.int .i64 o.n) := (L9.out.cell (p := ⟨g0, 1, none⟩) (by simp only; omega)).trans c61
          have c92 : w9.cell? ⟨g0, 2, none⟩ = some (.int .i64 o.m) := (L9.out.cell (p := ⟨g0, 2, none⟩) (by simp only; omega)).trans c62
          obtain ⟨p2, hp2⟩ : ∃ p2, cutStep p [(framesF ckW (ls.take q), (framesF ckW (ls.take q)).length)] o.m o.n = p2 := ⟨_, rfl⟩
          have hag := cut_again HQ4.out o.m o.n
          rw [HQ3.out, hp2] at hag
          have hcu2 := cut_any p7 sv8 _ _ _ o.m o.n w9 HT9.out (by simp) (by omega) (by omega)
          rw [List.nil_append, hp2] at hcu2
          have HAG := Lib.hid hag
          have HCUT := Lib.hid hcu2
          clear hr9 hd9 hb9 hD hag hp2 hcu2 HG8 HK8 HD8 hl80
          go_wp2_with fail
          with_reducible refine HCUT.out.mono ?_
          intro e w10 hd
          obtain ⟨p10, rfl, ht10, hb10, hp10, hp10l, _⟩ := hd
          rw [HDe.out] at hb10 hp10
          have hz10 : D ≤ w10.heap.size := by have := hb10.size; rw [HDe.out] at this; exact this
          have N10 : Hid (Below D w9 w10) := Lib.hid hb10
          have HT10 := Lib.hid ht10
          have HRD := Lib.hid (fun (W : World) (hW : Below D w9 W) => HRC.out W (L9.out.trans (hW.mono hCD)))
          have hgD : 0 < D := by omega
          clear ht10 hb10 HCUT HT9
          go_wp2_with fail
          with_reducible refine (open_any HT10.out (by simp) (HRD.out w10 N10.out) (by omega)).mono ?_
          intro e w11 hd
          obtain ⟨lp11, sv11, rv11, l11, rfl, hlp11, hl11, hd11, hk11, hb11, _⟩ := op_kept (B := D) ⟨hp10, fun k h => by cases h⟩ hz10 hd
          rw [HAG.out] at hl11 hd11
          have N11 : Hid (Below D w9 w11) := Lib.hid (N10.out.trans hb11)
          have hl110 : l11.length = q := by rw [dat_len hd11]; exact HTQ.out
          have HG11 := Lib.hid hl11
          have HK11 := Lib.hid hk11
          have HD11 := Lib.hid hd11
          have hz11 : D ≤ w11.heap.size := Nat.le_trans hz10 hb11.size
          clear hd hl11 hd11 hk11 hb11 N10 HT10
          have HRC11 := Lib.hid (records_any HG11.out (by omega) (fun p hp => And.right (HLSG.out (dat p) (by rw [← HD11.out]; exact List.mem_map_of_mem hp))))
          go_wp2_with fail
          with_reducible refine HRC11.out.mono ?_
          rintro e w12 ⟨v12, l12, rfl, hr12, hd12, hb12⟩
          rw [HD11.out] at hd12
          have hl120 : l12.length = q := by rw [dat_len hd12]; exact HTQ.out
          obtain ⟨A12, c12, rfl, hc121, hc122, hs12, hg12⟩ := recs_slice hr12 hl120
          have N12 : Hid (Below D w9 w12) := Lib.hid (N11.out.trans (hb12.mono hz11))
          have HR9' := Lib.hid (HR9.out.below N12.out (by rw [HDe.out]; exact Nat.le_refl _))
          obtain ⟨A9', c9', hv9, _, _, hs9, hg9⟩ := recs_slice HR9'.out hl90
          cases hv9
          have HG12 := Lib.hid (HG11.out.below hb12 (Nat.le_refl _))
          have hz12 : D ≤ w12.heap.size := Nat.le_trans hz11 hb12.size
          have hsm := rsame_any A12 A9 l12 l9 q q c12 c9 hl120 hl90 w12 (by omega) (by omega) hs12 hs9 hg12 hg9
          rw [decide_eq_true (by rw [hd12, HD9.out])] at hsm
          have HSM := Lib.hid hsm
          clear hr12 hd12 hb12 hsm HG11 hs12 hs9 hg12 hg9
          go_wp2_with fail
          with_reducible refine HSM.out.mono ?_
          rintro e w13 ⟨rfl, hb13⟩
          have N13 : Hid (Below D w9 w13) := Lib.hid (N12.out.trans (hb13.mono hz12))
          have HR13 := Lib.hid (HR9'.out.below hb13 (Nat.le_refl _))
          have HG13 := Lib.hid (HG12.out.below hb13 (Nat.le_refl _))
          have hz13 : D ≤ w13.heap.size := Nat.le_trans hz12 hb13.size
          obtain ⟨A9', c9', hv9, _, _, hs9, hg9⟩ := recs_slice HR13.out hl90
          cases hv9
          have L13 : Below C w6 w13 := L9.out.trans (N13.out.mono hCD)
          have hR5' := HR6.out.below L13 (by rw [HCe.out]; exact Nat.le_refl _)
          obtain ⟨A5', c5', hv5, _, _, hs5, hg5⟩ := recs_slice hR5' (m := K) (by rw [dat_len HD5.out, HKe.out])
          cases hv5
          have hs5k := hs5.take hq1'
          rw [Nat.mul_one, ← List.map_take] at hs5k
          have hsm := rsame_any A9 A5 l9 (l5.take q) q q c9 c5 hl90 (by rw [List.length_take, dat_len HD5.out, HKe.out]; omega) w13 (by omega) (by omega) hs9 hs5k hg9 (fun p hp => hg5 p (List.mem_of_mem_take hp))
          rw [decide_eq_true (by rw [HD9.out, List.map_take, HD5.out])] at hsm
          have HSM2 := Lib.hid hsm
          have y1 : decide ((q : Int) < (lst : Int)) = false := by simp; omega
          have y2 : decide ((K : Int) < (q : Int)) = false := by simp; omega
          have y3 : (q : Int) ≤ (c5 : Int) := by omega
          clear hb13 HSM HR9' HG12 hs9 hg9 hs5 hg5 hs5k hsm hR5' L13
          go_wp2_with fail
          with_reducible refine HSM2.out.mono ?_
          rintro e w14 ⟨rfl, hb14⟩
          have N14 : Hid (Below D w9 w14) := Lib.hid (N13.out.trans (hb14.mono hz13))
          have HR14 := Lib.hid (HR13.out.below hb14 (Nat.le_refl _))
          have HG14 := Lib.hid (HG13.out.below hb14 (Nat.le_refl _))
          have hz14 : D ≤ w14.heap.size := Nat.le_trans hz13 hb14.size
          clear hb14 HSM2 HR13 HG13 y1 y2 y3
          obtain ⟨L, hL⟩ : ∃ L, l'.length = L := ⟨_, rfl⟩
          rw [hL] at hlc'
          have HLe := Lib.hid hL
          by_cases hm0 : 0 < L ∧ L ≤ 4096
          · obtain ⟨hm1, hm2⟩ := hm0
            have m1 : ((L : Int) == 0) = false := by simp; omega
            have m2 : decide (4096 < (L : Int)) = false := by simp; omega
            have hgr : goodR l' := ⟨by rw [HLe.out]; exact hm1, by rw [HLe.out]; exact hm2⟩
            have L14 : Hid (Below C w6 w14) := Lib.hid (L9.out.trans (N14.out.mono hCD))
            have hbw : Below w.heap.size w w14 := by rw [HGW.out]; exact HB0.out.trans ((HLB.out.trans (L14.out.mono hBC)).mono (by omega))
            have hsD : Sl w14 D 1 A' l'.length (bts l') := (HA'.out.below hbw).more (by rw [HGW.out]; omega)
            have hap := lappend_any HG14.out (by simp) (by omega) (HRD.out w14 N14.out) (by omega) A' l' L c' HLe.out hgr ⟨by rw [HLe.out]; exact hlc', by unfold maxLen; omega, hsD.more hz14⟩ (low_stays HK11.out.tape hz14 hsD) (by rw [HLe.out]; simp only; omega)
            have HAP := Lib.hid hap
            have HGR := Lib.hid hgr
            clear hap hsD hbw hgr HR14 c61 c62 c91 c92
            go_wp2_with fail
            with_reducible refine HAP.out.mono ?_
            intro e w15 hd
            obtain ⟨sv15, rv15, l15, rfl, hl15, hd15, hk15, _, hb15, _⟩ := ldid_kept HK11.out hz14 hd
            have N15 : Hid (Below D w9 w15) := Lib.hid (N14.out.trans hb15)
            have hz15 : D ≤ w15.heap.size := Nat.le_trans hz14 hb15.size
            have HRE := Lib.hid (read_any p10 sv15 _ _ _ w15 hl15.tape)
            obtain ⟨X, hX⟩ : ∃ X, (framesF ckW (ls.take q) ++ frameF ckW l').length = X := ⟨_, rfl⟩
            have hXb : X ≤ 2000000 := by rw [← hX, List.length_append, frameF_len ckW_len, HLe.out]; omega
            have HX := Lib.hid hX
            clear hd hl15 hd15 hk15 hb15 hX HAP HG14
            go_wp2_with fail
            with_reducible refine HRE.out.mono ?_
            rintro e w16 ⟨v16, rfl, hr16, hb16, _⟩
            obtain ⟨A16, c16, rfl, hc161, hc162, hr16'⟩ := rd_slice hr16 HX.out
            have N16 : Hid (Below D w9 w16) := Lib.hid (N15.out.trans (hb16.mono hz15))
            have hz16 : D ≤ w16.heap.size := Nat.le_trans hz15 hb16.size
            have hs16 : Sl w16 w16.heap.size 1 A16 X (bts (framesF ckW (ls.take q) ++ frameF ckW l')) := by
              obtain ⟨_, _, hv, _, _, hs⟩ := hr16'.sl
              rw [bts_len, HX.out] at hv hs
              cases hv
              exact hs
            have hsc := scan_any A16 (framesF ckW (ls.take q) ++ frameF ckW l') c16 w16 (HRD.out w16 N16.out) (by omega) (by rw [HX.out]; exact hc161) hc162 (by rw [HX.out]; exact hXb) (by rw [HX.out]; exact hs16)
            have hsw : scanW ckW (framesF ckW (ls.take q) ++ frameF ckW l') = ls.take q ++ [l'] := by
              have h := scanW_frames (ck := ckW) ckW_len (ls.take q ++ [l']) [] (by
                intro r hr
                rcases List.mem_append.1 hr with h | h
                · exact HLSG.out r h
                · rw [List.mem_singleton] at h
                  rw [h]
                  exact HGR.out)
              rwa [framesF_snoc, List.append_nil, scanW_nil, List.append_nil] at h
            rw [HX.out, hsw] at hsc
            obtain ⟨Y, hY⟩ : ∃ Y, (framesF ckW (ls.take q ++ [l'])).length = Y := ⟨_, rfl⟩
            rw [hY] at hsc
            have hYb : Y ≤ 2000000 := by rw [← hY, framesF_snoc, HX.out]; exact hXb
            have HSC := Lib.hid hsc
            clear hsc hsw hY hs16 hr16 hr16' hb16 HRE HX
            go_wp2_with fail
            with_reducible refine HSC.out.mono ?_
            rintro e w17 ⟨v17, l17, rfl, hr17, hd17, hb17⟩
            have hl170 : l17.length = q + 1 := by rw [dat_len hd17, List.length_append, HTQ.out]; rfl
            obtain ⟨A17, c17, rfl, hc171, hc172, hs17, hg17⟩ := recs_slice hr17 hl170
            have N17 : Hid (Below D w9 w17) := Lib.hid (N16.out.trans (hb17.mono hz16))
            have hz17 : D ≤ w17.heap.size := Nat.le_trans hz16 hb17.size
            have HR17 := Lib.hid (HR9.out.below N17.out (by rw [HDe.out]; exact Nat.le_refl _))
            obtain ⟨A9', c9', hv9, _, _, hs9, hg9⟩ := recs_slice HR17.out hl90
            cases hv9
            have HS17 := Lib.hid hs17
            have HGD17 := Lib.hid hg17
            have HD17 := Lib.hid hd17
            have HS9 := Lib.hid hs9
            have HG9 := Lib.hid hg9
            clear hr17 hs17 hg17 hd17 hs9 hg9 hb17 HSC
            obtain ⟨j0, hj, hy0, hy1, hy2⟩ := info_parts info_bytes
            have O1 := Lib.hid (World.ownsRow_made (base := w17.heap.size) (e := 22) (size := 1) w17 #[] 0 (Nat.le_refl _) (by unfold maxLen; omega) (by simp))
            have N1 : Hid (Below w17.heap.size w17 (w17.alloc (.cells #[] 22))) := Lib.hid (by (first | assumption | (repeat (first | exact Below.refl _ _ | assumption | apply Below.drew | apply below_drewN | (refine Below.setCell ?_ (by (try simp) <;> omega) _) | (refine Below.alloc ?_ (by (try simp) <;> omega) _)))))
            have hone : ∀ u ∈ l9.map slv, u.oneCell' = true := fun u hu => by
              obtain ⟨p, _, rfl⟩ := List.mem_map.1 hu
              simp [slv, Value.oneCell']
            go_upto_region 45 with fail
            go_wp2_with (first
              | (at_builtin; (refine wpList_append_sl (w17.alloc (.cells #[] 22)) (by rfl) _ _ 24 (by rfl) w17.heap.size 22 j0 _ 1 24 Tryd.underlying24 hj hy0 hy1 hy2 rfl (by omega) (.slice (some ⟨w17.heap.size, 0, none⟩) 0 0) 0 [] (by rfl) O1.out A9 q c9 (l9.map slv) (by rfl) ((HS9.out.below N1.out).more N1.out.size) hone (by unfold maxLen; omega) (by omega) (by simp) ?_; intro v2 w2 ho_ hg_ hv_; have P2 := Lib.hid ho_; have N2 : Hid (Below w17.heap.size w17 w2) := Lib.hid (N1.out.grown hg_ (by simp) (fun k hk => (own_cells O1.out hk).1)); clear ho_ hg_ hv_))
              | (at_builtin; (refine wpList_append_sl (w2.alloc (.cells #[.slice A' L c'] 22)) (by rfl) _ _ 24 (by rfl) w17.heap.size 22 j0 _ 1 24 Tryd.underlying24 hj hy0 hy1 hy2 rfl (by omega) v2 (0 + q) ([] ++ l9.map slv) (by rfl) (P2.out.alloc _) (some ⟨w2.heap.size, 0, none⟩) 1 1 [.slice A' L c'] (by rfl) (built_sl (cs := [.slice A' L c']) rfl) (by simp [Value.oneCell']) (by unfold maxLen; omega) (by omega) (by have := N2.out.size; simp; omega) ?_; intro v3 w3 ho_ hg_ hv_; have N2' : Below w2.heap.size w2 (w2.alloc (.cells #[.slice A' L c'] 22)) := (by (first | assumption | (repeat (first | exact Below.refl _ _ | assumption | apply Below.drew | apply below_drewN | (refine Below.setCell ?_ (by (try simp) <;> omega) _) | (refine Below.alloc ?_ (by (try simp) <;> omega) _))))); have N2'' := N2.out.trans (N2'.mono N2.out.size); have N3 : Hid (Below w17.heap.size w17 w3) := Lib.hid (N2''.grown hg_ N2''.size (fun k hk => (own_cells P2.out hk).1)); clear hg_ hv_ N2' N2''; obtain ⟨A3, c3, rfl, hc31, hc32, hs3⟩ := own_sl ho_; clear ho_)))
            have N3D : Hid (Below D w9 w3) := Lib.hid (N17.out.trans (N3.out.mono hz17))
            have W3 : Hid (Below B w0 w3) := Lib.hid (HLB.out.trans ((L9.out.trans (N3D.out.mono hCD)).mono hBC))
            have hbw3 : Below w.heap.size w w3 := by rw [HGW.out]; exact HB0.out.trans (W3.out.mono (by omega))
            have hsm := rsame_any A17 A3 l17 (l9 ++ [(A', c', l')]) (q + 1) (0 + q + 1) c17 c3 hl170 (by rw [List.length_append, hl90, Nat.zero_add]; rfl) w3 (by omega) (by omega) ((HS17.out.below N3.out).more N3.out.size)
              (by
                have e : slv (A', c', l') = .slice A' L c' := by rw [slv, HLe.out]
                rw [List.map_append, List.map_cons, List.map_nil, e]
                exact hs3)
              (fun p hp => (HGD17.out p hp).below N3.out)
              (fun p hp => by
                rcases List.mem_append.1 hp with h | h
                · exact (HG9.out p h).below N3.out
                · rw [List.mem_singleton] at h
                  rw [h]
                  exact ⟨by rw [HLe.out]; exact hlc', by unfold maxLen; omega, (HA'.out.below hbw3).more hbw3.size⟩)
            rw [decide_eq_true (by rw [HD17.out, List.map_append, HD9.out]; rfl)] at hsm
            rw [Nat.zero_add] at hsm
            have HSM := Lib.hid hsm
            clear hsm hs3 hbw3
            go_wp2_with fail
            with_reducible refine HSM.out.mono ?_
            rintro e w20 ⟨rfl, hb20⟩
            have W20 : Hid (Below B w0 w20) := Lib.hid (W3.out.trans (hb20.mono (by have := W3.out.size; rw [HBB.out] at this; exact this)))
            clear hb20
            go_wp2_with fail
            go_ret
            exact ⟨rfl, by rw [HGW.out]; exact HB0.out.trans (W20.out.mono (by omega))⟩
          · have W14 : Hid (Below B w0 w14) := Lib.hid (HLB.out.trans ((L9.out.trans (N14.out.mono hCD)).mono hBC))
            rcases Nat.eq_zero_or_pos L with h0 | h0
            · have m1 : ((L : Int) == 0) = true := by simp [h0]
              clear hm0
              go_wp2_with fail
              go_ret
              exact ⟨rfl, by rw [HGW.out]; exact HB0.out.trans (W14.out.mono (by omega))⟩
            · have m1 : ((L : Int) == 0) = false := by simp; omega
              have m2 : decide (4096 < (L : Int)) = true := by simp; omega
              clear hm0
              go_wp2_with fail
              go_ret
              exact ⟨rfl, by rw [HGW.out]; exact HB0.out.trans (W14.out.mono (by omega))⟩
end Go.Proofs.YtpmmojjffjpmbaaDoor

/- What this text proves: the contract of the document's Update of layer 7: what it answers is updateV of the two lists. The condition is that both lists are short (at most 1000). -/
import Derived.Test.YtlocapkofmpebaaVsRefB
namespace Go.Proofs.Ytlocapkofmpebaa
open Go.RowKit
set_option linter.unusedVariables false
set_option linter.unusedSimpArgs false

theorem lo_lohi (l : VL) (k : Int) : lo (lo l k ++ hi l k) k = lo l k := by
  have h1 : lo (lo l k) k = lo l k := List.filter_eq_self.2 (fun v hv => (List.mem_filter.1 hv).2)
  have h2 : lo (hi l k) k = [] := List.filter_eq_nil_iff.2 (fun v hv => by have := (List.mem_filter.1 hv).2; simp at this ⊢; omega)
  have h3 : lo (lo l k ++ hi l k) k = lo (lo l k) k ++ lo (hi l k) k := List.filter_append ..
  rw [h3, h1, h2, List.append_nil]
theorem hi_lohi (l : VL) (k : Int) : hi (lo l k ++ hi l k) k = hi l k := by
  have h1 : hi (lo l k) k = [] := List.filter_eq_nil_iff.2 (fun v hv => by have := (List.mem_filter.1 hv).2; simp at this ⊢; omega)
  have h2 : hi (hi l k) k = hi l k := List.filter_eq_self.2 (fun v hv => (List.mem_filter.1 hv).2)
  have h3 : hi (lo l k ++ hi l k) k = hi (lo l k) k ++ hi (hi l k) k := List.filter_append ..
  rw [h3, h1, h2, List.nil_append]
theorem has_lohi (l : VL) (k : Int) : hasV (lo l k ++ hi l k) k = false := by
  unfold hasV
  rw [List.any_eq_false]
  intro v hv
  rcases List.mem_append.1 hv with h | h
  · have := (List.mem_filter.1 h).2; simp at this ⊢; omega
  · have := (List.mem_filter.1 h).2; simp at this ⊢; omega
theorem pos_lohi {l : VL} {k : Int} (h : ∀ v ∈ l, 1 ≤ v.2) : ∀ v ∈ lo l k ++ hi l k, 1 ≤ v.2 := by
  intro v hv
  rcases List.mem_append.1 hv with h' | h'
  · exact h v (List.mem_filter.1 h').1
  · exact h v (List.mem_filter.1 h').1

/-- What the document's Update leaves. -/
def RefP (B : Nat) (r : VL × Int) (w : World) (e : Ending) (w' : World) : Prop := ∃ A c, e = .returned (.tuple #[.slice A r.1.length c, .int .i64 r.2]) ∧ Sl w' w'.heap.size 2 A r.1.length (vCells r.1) ∧ Below B w w'
theorem RefP.err {B : Nat} {r : VL × Int} {w w' : World} {n : Int} (h : r = ([], n)) (hb : Below B w w') : RefP B r w (.returned (.tuple #[.slice none 0 0, .int .i64 n])) w' := by
  subst h
  exact ⟨none, 0, rfl, Sl.nil _ _ _ _, hb⟩
theorem RefP.ok {B : Nat} {r : VL × Int} {w w' : World} {A : Option Addr} {c n : Nat} {l : VL} (h : r = (l, 0)) (hn : l.length = n) (hs : Sl w' w'.heap.size 2 A l.length (vCells l)) (hb : Below B w w') : RefP B r w (.returned (.tuple #[.slice A n c, .int .i64 0])) w' := by
  subst h hn
  exact ⟨A, c, rfl, hs, hb⟩
/-- How far its loop is. -/
structure RefI (w W : World) (B : Nat) (A : Option Addr) (l cs : VL) (j : Nat) (lj : VL) : Prop where
  sl : Sl W W.heap.size 2 A lj.length (vCells lj)
  up : Up lj
  pos : ∀ v ∈ lj, 1 ≤ v.2
  len : lj.length ≤ 64 + j
  way : updV l cs = updV lj (cs.drop j)
  bel : Below B w W

set_option maxRecDepth 100000 in
set_option maxHeartbeats 8000000 in
theorem refUpdate_any (A A' : Option Addr) (l cs : VL) (c c' : Nat) (w : World) (hl : l.length ≤ 1000) (hcs : cs.length ≤ 1000) (hA : Sl w w.heap.size 2 A l.length (vCells l)) (hA' : Sl w w.heap.size 2 A' cs.length (vCells cs)) :
    Calls Try.prog 10 #[.slice A l.length c, .slice A' cs.length c'] w (RefP w.heap.size (updateV l cs) w) := by
  have HR := Lib.hid (refRight_any A l c w (by unfold maxLen; omega) hA)
  obtain ⟨B, hB⟩ : ∃ B, w.heap.size = B := ⟨_, rfl⟩
  have HS := Lib.hid hA'
  have HA := Lib.hid hA
  obtain ⟨n, hn⟩ : ∃ n, l.length = n := ⟨_, rfl⟩
  obtain ⟨m, hm⟩ : ∃ m, cs.length = m := ⟨_, rfl⟩
  have HN := Lib.hid hn
  have HM := Lib.hid hm
  have hm1 : m ≤ 1000 := by omega
  rw [hn] at HR ⊢
  rw [hm] at HS ⊢
  rw [hB] at HR HS ⊢
  obtain ⟨Q, hQ⟩ : ∃ Q, RefP B (updateV l cs) w = Q := ⟨_, rfl⟩
  have HQ := Lib.hid hQ
  rw [hQ]
  have HBW := Lib.hid hB
  clear hA hA' hl hcs hn hm hQ hB
  cases hr : rightV l with
  | false =>
    have HE : Hid (updateV l cs = ([], 71)) := Lib.hid (by unfold updateV; rw [hr]; rfl)
    rw [hr] at HR
    go_enter Try.func10, Try.ntmps10
    go_wp2_with fail
    with_reducible refine HR.out.mono ?_
    rintro e w1 ⟨rfl, hb1⟩
    have L1 := Lib.hid hb1
    clear hb1 HR
    go_wp2_with fail
    rw [← HQ.out]
    exact RefP.err HE.out L1.out
  | true =>
    rw [hr] at HR
    have HRT := Lib.hid hr
    clear hr
    go_enter Try.func10, Try.ntmps10
    go_wp2_with fail
    with_reducible refine HR.out.mono ?_
    rintro e w1 ⟨rfl, hb1⟩
    have L1 := Lib.hid hb1
    have HB0 : Hid (B ≤ w.heap.size) := Lib.hid (Nat.le_of_eq HBW.out.symm)
    have S1 : Hid (Sl w1 w1.heap.size 2 A l.length (vCells l)) := Lib.hid (by
      have h := HA.out
      have hz := hb1.size
      rw [HBW.out] at h hz
      exact (h.below hb1).more hz)
    clear hb1 HR
    go_wp2_with fail
    go_loopw [7, 8] (fun s i wr => ∃ (k : Nat) (lj : VL) (A2 : Option Addr) (c2 : Nat), k ≤ m ∧ i = .int .i64 k ∧ s = .slice A2 lj.length c2 ∧ RefI w wr B A2 l cs k lj) (fun _ i _ => m - (intOf i).toNat)
    case atStart => exact ⟨0, l, A, c, by omega, rfl, by rw [HN.out], ⟨S1.out, right_up HRT.out, right_pos HRT.out, by have := right_len HRT.out; omega, by simp, L1.out⟩⟩
    case round =>
      clear S1 L1
      obtain ⟨k, lj, A2, c2, hk, rfl, rfl, hI⟩ := hrel
      have HI := Lib.hid hI
      obtain ⟨nj, hnj⟩ : ∃ nj, lj.length = nj := ⟨_, rfl⟩
      have HNJ := Lib.hid hnj
      have hjl : nj ≤ 1100 := by have := hI.len; omega
      have hzr : B ≤ wr.heap.size := Nat.le_trans HB0.out hI.bel.size
      rw [hnj]
      clear hI hnj
      by_cases hlt : k < m
      · obtain ⟨b, off, ke, pe, rfl, hb, hck, hcp, hlk⟩ := (sl_len HM.out (HS.out.below HI.out.bel)).val (k := k) (by rw [HM.out]; exact hlt)
        have hw := HI.out.way
        rw [drop_at hlk, updV] at hw
        have HW := Lib.hid hw
        clear hw hlk
        obtain ⟨vb, hvb⟩ : ∃ vb, wr.heap.size = vb := ⟨_, rfl⟩
        obtain ⟨W, hW⟩ : ∃ W, wr.alloc (.cells #[.int .u64 ke, .int .i64 pe] 26) = W := ⟨_, rfl⟩
        have LW : Hid (Below wr.heap.size wr W) := Lib.hid (by rw [← hW]; exact alloc_bel _ _ _)
        have KW : Hid (Bk W vb 26 #[.int .u64 ke, .int .i64 pe]) := Lib.hid (by rw [← hW, ← hvb]; exact Bk.new _ _ _)
        have LB : Hid (Below B w W) := Lib.hid (HI.out.bel.trans (LW.out.mono hzr))
        have SW := Lib.hid (sl_bl HI.out.sl LW.out)
        have c0 : W.cell? ⟨vb, 0, none⟩ = some (.int .u64 ke) := KW.out.cell 0
        have c1 : W.cell? ⟨vb, 1, none⟩ = some (.int .i64 pe) := KW.out.cell 1
        by_cases h0 : pe < 0
        · have e0 : decide (pe < 0) = true := by simpa using h0
          have HE : Hid (updateV l cs = ([], 72)) := Lib.hid (by unfold updateV; rw [HRT.out, HW.out]; simp [stepV, badP, h0])
          clear h0
          go_wp2_with fail
          rw [← HQ.out]
          exact RefP.err HE.out LB.out
        by_cases h1 : 1125899906842624 < pe
        · have e0 : decide (pe < 0) = false := by simpa using h0
          have e1 : decide (1125899906842624 < pe) = true := by simpa using h1
          have HE : Hid (updateV l cs = ([], 72)) := Lib.hid (by unfold updateV; rw [HRT.out, HW.out]; simp [stepV, badP, h1])
          clear h0 h1
          go_wp2_with fail
          rw [← HQ.out]
          exact RefP.err HE.out LB.out
        have e0 : decide (pe < 0) = false := by simpa using h0
        have e1 : decide (1125899906842624 < pe) = false := by simpa using h1
        have HBad : Hid (badP pe = false) := Lib.hid (by unfold badP; rw [e0, e1]; rfl)
        by_cases h2 : pe = 0
        · have e2 : (pe == 0) = true := by simpa using h2
          have HP0 : Hid (pe = 0) := Lib.hid h2
          have HC := Lib.hid (refPower_any A2 lj c2 ke W (by rw [HNJ.out]; unfold maxLen; omega) SW.out)
          obtain ⟨q, hq⟩ : ∃ q, powerV lj ke = q := ⟨_, rfl⟩
          rw [hq, HNJ.out] at HC
          have HQq := Lib.hid hq
          clear h0 h1 h2 hq
          go_wp2_with fail
          clear hvb hW c0 c1 e0 e1
          with_reducible refine HC.out.mono ?_
          rintro e w3 ⟨rfl, hb3⟩
          have K3 := Lib.hid (KW.out.below hb3 KW.out.lt)
          have S3 := Lib.hid (sl_bl SW.out hb3)
          have L3 : Hid (Below B w w3) := Lib.hid (LB.out.trans (hb3.mono (by have := LW.out.size; omega)))
          clear HC hb3
          by_cases h3 : q = 0
          · have HE : Hid (updateV l cs = ([], 73)) := Lib.hid (by
              have h4 := power_has HI.out.pos (HQq.out.trans h3)
              unfold updateV
              rw [HRT.out, HW.out]
              have hst : stepV lj ke pe = .error 73 := by
                unfold stepV
                rw [HBad.out, h4, if_pos HP0.out]
                rfl
              simp [hst])
            subst h3
            go_wp2_with fail
            rw [← HQ.out]
            exact RefP.err HE.out L3.out
          · have hh : hasV lj ke = true := by
              rcases Bool.eq_false_or_eq_true (hasV lj ke) with h | h
              · exact h
              · exact absurd (HQq.out.symm.trans (powerV_no h)) h3
            have hst : stepV lj ke pe = .ok (lo lj ke ++ hi lj ke) := by
              unfold stepV
              rw [HBad.out, hh, if_pos HP0.out]
              rfl
            have HW2 := HW.out
            simp only [hst] at HW2
            have e3 : (q == 0) = false := by simpa using h3
            have HO := Lib.hid (without_any A2 lj c2 ke w3 (by rw [HNJ.out]; omega) S3.out)
            rw [HNJ.out, outV_up HI.out.up ke] at HO
            have c0 : w3.cell? ⟨vb, 0, none⟩ = some (.int .u64 ke) := K3.out.cell 0
            have HUP := Lib.hid (up_step HI.out.up hst)
            have HLN := Lib.hid (step_len hst)
            have HW3 := Lib.hid HW2
            clear hh hst HW2
            go_wp2_with fail
            with_reducible refine HO.out.mono ?_
            rintro e w4 ⟨v4, rfl, ho4, hb4⟩
            obtain ⟨A4, c4, hve, hs4⟩ := own_at ho4
            subst hve
            have K4 := Lib.hid (K3.out.below hb4 K3.out.lt)
            have L4 : Hid (Below B w w4) := Lib.hid (L3.out.trans (hb4.mono (Nat.le_trans HB0.out L3.out.size)))
            have HN4 : Hid (RefI w w4 B A4 l cs (k+1) (lo lj ke ++ hi lj ke)) := Lib.hid ⟨hs4, HUP.out, pos_lohi HI.out.pos, by have := HLN.out; have := HI.out.len; omega, HW3.out, L4.out⟩
            have c1 : w4.cell? ⟨vb, 1, none⟩ = some (.int .i64 pe) := K4.out.cell 1
            have e4 : decide (0 < pe) = false := by rw [HP0.out]; rfl
            clear HO hb4 ho4 hs4 c0 h3 e3
            go_wp2_with fail
            go_roundw
            case rel => exact ⟨k+1, _, A4, c4, by omega, by go_num, by simp, HN4.out⟩
            case measure => simp [intOf]; omega
        · have e2 : (pe == 0) = false := by simpa using h2
          have e3 : decide (0 < pe) = true := decide_eq_true (by omega)
          have hpe : 1 ≤ pe := by omega
          have hst : stepV lj ke pe = .ok (lo lj ke ++ (ke, pe) :: hi lj ke) := by
            unfold stepV
            rw [HBad.out, if_neg h2]
            rfl
          have HW2 := HW.out
          simp only [hst] at HW2
          have HUP := Lib.hid (up_step HI.out.up hst)
          have HLN := Lib.hid (step_len hst)
          have HW3 := Lib.hid HW2
          have HO := Lib.hid (without_any A2 lj c2 ke W (by rw [HNJ.out]; omega) SW.out)
          rw [HNJ.out, outV_up HI.out.up ke] at HO
          have HPE := Lib.hid hpe
          clear h0 h1 h2 hst HW2 hpe
          go_wp2_with fail
          clear hvb hW c0 c1 e0 e1 e2
          with_reducible refine HO.out.mono ?_
          rintro e w4 ⟨v4, rfl, ho4, hb4⟩
          obtain ⟨A4, c4, hve, hs4⟩ := own_at ho4
          subst hve
          have K4 := Lib.hid (KW.out.below hb4 KW.out.lt)
          have L4 : Hid (Below B w w4) := Lib.hid (LB.out.trans (hb4.mono (Nat.le_trans HB0.out LB.out.size)))
          have hx := with_any A4 (lo lj ke ++ hi lj ke) c4 ke pe w4 (by have := lohi_len ke lj; rw [List.length_append] at *; have := HI.out.len; omega) hs4 (up_out HI.out.up ke) (has_lohi lj ke)
          rw [lo_lohi, hi_lohi] at hx
          have HX := Lib.hid hx
          obtain ⟨n4, hn4⟩ : ∃ n4, (lo lj ke ++ hi lj ke).length = n4 := ⟨_, rfl⟩
          rw [hn4] at HX ⊢
          have c0 : w4.cell? ⟨vb, 0, none⟩ = some (.int .u64 ke) := K4.out.cell 0
          have c1 : w4.cell? ⟨vb, 1, none⟩ = some (.int .i64 pe) := K4.out.cell 1
          clear HO hb4 ho4 hs4 hx hn4
          go_wp2_with fail
          with_reducible refine HX.out.mono ?_
          rintro e w5 ⟨v5, rfl, ho5, hb5⟩
          obtain ⟨A5, c5, hve, hs5⟩ := own_at ho5
          subst hve
          have L5 : Hid (Below B w w5) := Lib.hid (L4.out.trans (hb5.mono (Nat.le_trans HB0.out L4.out.size)))
          have HN5 : Hid (RefI w w5 B A5 l cs (k+1) (lo lj ke ++ (ke, pe) :: hi lj ke)) := Lib.hid ⟨hs5, HUP.out, fun v hv => by
            rcases List.mem_append.1 hv with h | h
            · exact pos_lohi (k := ke) HI.out.pos v (List.mem_append_left _ h)
            · rcases List.mem_cons.1 h with rfl | h
              · exact HPE.out
              · exact pos_lohi (k := ke) HI.out.pos v (List.mem_append_right _ h), by have := HLN.out; have := HI.out.len; omega, HW3.out, L5.out⟩
          clear HX hb5 ho5 hs5 c0 c1 e3
          go_wp2_with fail
          go_roundw
          case rel => exact ⟨k+1, _, A5, c5, by omega, by go_num, by simp, HN5.out⟩
          case measure => simp [intOf]; omega
      · obtain rfl : k = m := by omega
        have HW : Hid (updV l cs = .ok lj) := Lib.hid (by rw [HI.out.way, ← HM.out, List.drop_length]; rfl)
        have HS1 := Lib.hid (refSum_any A2 lj c2 wr (by rw [HNJ.out]; unfold maxLen; omega) HI.out.sl)
        have HR1 := Lib.hid (fun (W : World) (hb : Below wr.heap.size wr W) => refRight_any A2 lj c2 W (by rw [HNJ.out]; unfold maxLen; omega) (sl_bl HI.out.sl hb))
        have hneg := refSum_neg lj
        obtain ⟨q, hq⟩ : ∃ q, refSum lj = q := ⟨_, rfl⟩
        rw [HNJ.out] at HS1 HR1
        rw [hq] at HS1 hneg
        clear hq HS
        go_wp2_with fail
        with_reducible refine HS1.out.mono ?_
        rintro e w4 ⟨rfl, hb4⟩
        have L4 := Lib.hid hb4
        clear HS1 hb4
        cases hs : (sumV 0 lj).2 with
        | false =>
          have HE : Hid (updateV l cs = ([], 72)) := Lib.hid (by unfold updateV endV; rw [HRT.out, HW.out]; simp [hs])
          have LE : Hid (Below B w w4) := Lib.hid (HI.out.bel.trans (L4.out.mono hzr))
          rw [hs] at hneg
          have e0 : decide (q < 0) = true := hneg
          clear hs hneg
          go_wp2_with fail
          rw [← HQ.out]
          exact RefP.err HE.out LE.out
        | true =>
          have HT := Lib.hid hs
          rw [hs] at hneg
          have e0 : decide (q < 0) = false := hneg
          clear hs hneg
          go_wp2_with fail
          with_reducible refine (HR1.out w4 L4.out).mono ?_
          rintro e w5 ⟨rfl, hb5⟩
          have L5 : Hid (Below wr.heap.size wr w5) := Lib.hid (L4.out.trans (hb5.mono L4.out.size))
          have LE : Hid (Below B w w5) := Lib.hid (HI.out.bel.trans (L5.out.mono hzr))
          clear HR1 hb5 e0
          cases hs : rightV lj with
          | false =>
            have HE : Hid (updateV l cs = ([], 71)) := Lib.hid (by unfold updateV endV; rw [HRT.out, HW.out]; simp [HT.out, hs])
            clear hs
            go_wp2_with fail
            rw [← HQ.out]
            exact RefP.err HE.out LE.out
          | true =>
            have HE : Hid (updateV l cs = (lj, 0)) := Lib.hid (by unfold updateV endV; rw [HRT.out, HW.out]; simp [HT.out, hs])
            have SE := Lib.hid (sl_bl HI.out.sl L5.out)
            clear hs
            go_wp2_with fail
            rw [← HQ.out]
            exact RefP.ok HE.out HNJ.out SE.out LE.out
end Go.Proofs.Ytlocapkofmpebaa

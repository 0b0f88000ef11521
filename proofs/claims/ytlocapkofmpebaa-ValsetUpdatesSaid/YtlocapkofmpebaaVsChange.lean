/- What this text proves: the contract of valset.change. The conditions are that the list is by rising keys and lies in a row of one's own. -/
import Derived.Test.YtlocapkofmpebaaVsMath
import Derived.Test.YtlocapkofmpebaaVsInsert
namespace Go.Proofs.Ytlocapkofmpebaa
open Go.RowKit
set_option linter.unusedVariables false
set_option linter.unusedSimpArgs false

theorem vown_bl {W W' : World} {B : Nat} {v : Value} {l : VL} (ho : VOwn W B v l) (hb : Below W.heap.size W W') : VOwn W' B v l := by
  refine ⟨ho.1, ?_⟩
  rcases ho.2 with h | ⟨g, cap, cur, rfl, hbg, hh, rest⟩
  · exact .inl h
  · exact .inr ⟨g, cap, cur, rfl, hbg, (hb.block g (Array.getElem?_eq_some_iff.1 hh).1).trans hh, rest⟩

/-- What a change leaves. -/
def ChP (B : Nat) (l : VL) (k p : Int) (w : World) (e : Ending) (w' : World) : Prop := match stepV l k p with
  | .error n => e = .returned (.tuple #[.slice none 0 0, .int .i64 n]) ∧ Below B w w'
  | .ok l' => ∃ v', e = .returned (.tuple #[v', .int .i64 0]) ∧ VOwn w' B v' l' ∧ Below B w w'
theorem ChP.err {B : Nat} {l : VL} {k p : Int} {w w' : World} {n : Int} (h : stepV l k p = .error n) (hb : Below B w w') : ChP B l k p w (.returned (.tuple #[.slice none 0 0, .int .i64 n])) w' := by
  unfold ChP
  rw [h]
  exact ⟨rfl, hb⟩
theorem ChP.ok {B : Nat} {l l' : VL} {k p : Int} {w w' : World} {v' : Value} (h : stepV l k p = .ok l') (ho : VOwn w' B v' l') (hb : Below B w w') : ChP B l k p w (.returned (.tuple #[v', .int .i64 0])) w' := by
  unfold ChP
  rw [h]
  exact ⟨v', rfl, ho, hb⟩

theorem vCells_set2 (l : VL) (i : Nat) (k p : Int) : ((vCells l).set (i * 2) (.int .u64 k)).set (i * 2 + 1) (.int .i64 p) = vCells (l.set i (k, p)) := by
  induction l generalizing i with
  | nil => simp [vCells]
  | cons a l ih =>
    cases i with
    | zero => simp [vCells]
    | succ i =>
      have h := ih i
      rw [List.set_cons_succ, vCells_cons, vCells_cons, ← h, show (i + 1) * 2 = i * 2 + 1 + 1 from by omega]
      simp

set_option maxRecDepth 100000 in
set_option maxHeartbeats 4000000 in
theorem change_any (B : Nat) (v : Value) (l : VL) (k p : Int) (w : World) (hl : l.length ≤ 900000) (hu : Up l) (hv : VOwn w B v l) (hB : B ≤ w.heap.size) :
    Calls Try.prog 16 #[v, .agg #[.int .u64 k, .int .i64 p]] w (ChP B l k p w) := by
  obtain ⟨vb, hvb⟩ : ∃ vb, w.heap.size = vb := ⟨_, rfl⟩
  obtain ⟨w1, hw1⟩ : ∃ w1, w.alloc (.cells #[.int .u64 k, .int .i64 p] 26) = w1 := ⟨_, rfl⟩
  have hb1 : Bk w1 vb 26 #[.int .u64 k, .int .i64 p] := by rw [← hw1, ← hvb]; exact Bk.new _ _ _
  have L1 : Hid (Below w.heap.size w w1) := Lib.hid (by rw [← hw1]; exact (by (first | assumption | (repeat (first | exact Below.refl _ _ | assumption | apply Below.drew | apply below_drewN | (refine Below.setCell ?_ (by (try simp) <;> omega) _) | (refine Below.alloc ?_ (by (try simp) <;> omega) _))))))
  have O1 := Lib.hid (vown_bl hv L1.out)
  have HU := Lib.hid hu
  have HB := Lib.hid hB
  have HL := Lib.hid hl
  have K1 := Lib.hid hb1
  have hne : ∀ g, v.ownBlock = some g → g < vb := fun g hg => by rw [← hvb]; exact (own_cells hv hg).2.1
  have HN := Lib.hid hne
  obtain ⟨A, c, hve, hnc, hcm, hsl⟩ := own_sl O1.out
  have HV := Lib.hid hve
  have HS := Lib.hid (search_any A l c k w1 (by omega) (rising_of_up hu) hsl)
  rw [hve]
  obtain ⟨n, hn⟩ : ∃ n, l.length = n := ⟨_, rfl⟩
  have HLN := Lib.hid hn
  rw [hn] at HS ⊢
  obtain ⟨Q, hQ⟩ : ∃ Q, ChP B l k p w = Q := ⟨_, rfl⟩
  have HQ := Lib.hid hQ
  rw [hQ]
  clear hv hu hB hl hne hsl hve hb1 hQ hn hnc hcm
  have HVB := Lib.hid hvb
  have hx0 : w1.cell? ⟨vb, 0, none⟩ = some (.int .u64 k) := K1.out.cell 0
  go_enter Try.func16, Try.ntmps16
  go_wp2_with fail
  clear hvb hw1 hx0
  with_reducible refine HS.out.mono ?_
  rintro e w2 ⟨i, hat, rfl, hb2⟩
  have K2 := Lib.hid (K1.out.below hb2 K1.out.lt)
  have O2 := Lib.hid (vown_bl O1.out hb2)
  have L2 : Hid (Below w.heap.size w w2) := Lib.hid (L1.out.trans (hb2.mono L1.out.size))
  have HA := Lib.hid hat
  clear hb2 hat HS
  have hc0 : w2.cell? ⟨vb, 0, none⟩ = some (.int .u64 k) := K2.out.cell 0
  have hc1 : w2.cell? ⟨vb, 1, none⟩ = some (.int .i64 p) := K2.out.cell 1
  have LB : Hid (Below B w w2) := Lib.hid (L2.out.mono HB.out)
  by_cases h0 : p < 0
  · have e0 : decide (p < 0) = true := by simpa using h0
    have HE : Hid (stepV l k p = .error 72) := Lib.hid (by unfold stepV badP; rw [e0]; rfl)
    clear h0
    go_wp2_with fail
    rw [← HQ.out]
    exact ChP.err HE.out LB.out
  by_cases h1 : 1125899906842624 < p
  · have e0 : decide (p < 0) = false := by simpa using h0
    have e1 : decide (1125899906842624 < p) = true := by simpa using h1
    have HE : Hid (stepV l k p = .error 72) := Lib.hid (by unfold stepV badP; rw [e0, e1]; rfl)
    clear h0 h1
    go_wp2_with fail
    rw [← HQ.out]
    exact ChP.err HE.out LB.out
  by_cases h2 : p = 0
  · cases hf : foundAt l k i with
    | false =>
      have HE : Hid (stepV l k p = .error 73) := Lib.hid (by
        have h3 := (hi_not HU.out HA.out hf).2
        subst h2
        unfold stepV
        rw [h3]
        rfl)
      subst h2
      clear h0 h1
      go_wp2_with fail
      rw [← HQ.out]
      exact ChP.err HE.out LB.out
    | true =>
      have h4 := hi_found HU.out HA.out hf
      have HE : Hid (stepV l k p = .ok (l.take i ++ l.drop (i + 1))) := Lib.hid (by
        subst h2
        unfold stepV
        rw [h4.2.1, lo_take HA.out, h4.1]
        rfl)
      have HD := delete_any B v l i ((i : Int) + 1) w2 (by simp) h4.2.2 (by have := HL.out; omega) O2.out
      rw [HV.out, HLN.out] at HD
      have HD' := Lib.hid HD
      have h5 : i < n := by rw [← HLN.out]; exact h4.2.2
      have h6 : n ≤ 900000 := by rw [← HLN.out]; exact HL.out
      subst h2
      clear h0 h1 h4 HD
      go_wp2_with fail
      with_reducible refine HD'.out.mono ?_
      rintro e w3 ⟨v3, rfl, ho3, hb3⟩
      have O3 := Lib.hid ho3
      have L3 : Hid (Below B w w3) := Lib.hid (LB.out.trans hb3)
      clear ho3 hb3
      go_wp2_with fail
      rw [← HQ.out]
      exact ChP.ok HE.out O3.out L3.out
  have e0 : decide (p < 0) = false := by simpa using h0
  have e1 : decide (1125899906842624 < p) = false := by simpa using h1
  have e2 : (p == 0) = false := by simpa using h2
  have HBad : Hid (badP p = false) := Lib.hid (by unfold badP; rw [e0, e1]; rfl)
  cases hf : foundAt l k i with
  | true =>
    have h4 := hi_found HU.out HA.out hf
    have HE : Hid (stepV l k p = .ok (l.set i (k, p))) := Lib.hid (by
      unfold stepV
      rw [HBad.out, lo_take HA.out, h4.1, if_neg h2, List.set_eq_take_append_cons_drop, if_pos h4.2.2]
      rfl)
    have h5 : i < n := by rw [← HLN.out]; exact h4.2.2
    have h6 : n ≤ 900000 := by rw [← HLN.out]; exact HL.out
    obtain ⟨g, cap, hA⟩ : ∃ g cap, v = .slice (some ⟨g, 0, none⟩) l.length cap := by
      rcases O2.out.2 with ⟨_, h⟩ | ⟨g, cap, cur, h, _⟩
      · have := h4.2.2; omega
      · exact ⟨g, cap, h⟩
    have h7 : A = some ⟨g, 0, none⟩ ∧ c = cap := by
      have := HV.out.symm.trans hA
      simp only [Value.slice.injEq, true_and] at this
      exact this
    obtain ⟨rfl, rfl⟩ := h7
    have O2' := O2.out
    rw [HV.out] at O2'
    have hgB : B ≤ g ∧ g < w2.heap.size := by
      have := own_cells O2' (g := g) rfl
      exact ⟨this.1, this.2.1⟩
    obtain ⟨ke, pe, hke⟩ : ∃ ke pe, l[i]? = some (ke, pe) := ⟨_, _, List.getElem?_eq_getElem h4.2.2⟩
    have hgd : l.getD i (0, 0) = (ke, pe) := by rw [List.getD_eq_getElem?_getD, hke]; rfl
    have hv2 := vCells_get l i h4.2.2
    rw [hgd] at hv2
    have hcA : w2.cell? ⟨g, i * 2, none⟩ = some (.int .u64 ke) := (World.ownsRow.cellAt O2' (i * 2) (by have := h4.2.2; omega)).trans hv2.1
    have hcB : w2.cell? ⟨g, i * 2 + 1, none⟩ = some (.int .i64 pe) := (World.ownsRow.cellAt O2' (i * 2 + 1) (by have := h4.2.2; omega)).trans hv2.2
    have hfA : w2.frozen? ⟨g, i * 2, none⟩ = false := World.ownsRow.frozenAt O2' _
    have hfB : w2.frozen? ⟨g, i * 2 + 1, none⟩ = false := World.ownsRow.frozenAt O2' _
    have s1 := World.ownsRow.stored O2' (i * 2) (.int .u64 k)
    have s2 := World.ownsRow.stored s1.1 (i * 2 + 1) (.int .i64 p)
    have s3 := s2.1
    rw [vCells_set2] at s3
    have O3 : Hid (VOwn ((w2.setCell ⟨g, i * 2, none⟩ (.int .u64 k)).setCell ⟨g, i * 2 + 1, none⟩ (.int .i64 p)) B (.slice (some ⟨g, 0, none⟩) l.length c) (l.set i (k, p))) := Lib.hid (by
      unfold VOwn
      rw [List.length_set]
      exact s3)
    have L3 : Hid (Below B w ((w2.setCell ⟨g, i * 2, none⟩ (.int .u64 k)).setCell ⟨g, i * 2 + 1, none⟩ (.int .i64 p))) := Lib.hid ((LB.out.setCell hgB.1 _).setCell hgB.1 _)
    rw [HLN.out] at O3
    have h8 : (i : Int) < (n : Int) := by omega
    clear h0 h1 h2 h4 hA hv2 s1 s2 s3 O2' hgd hgB
    go_wp2_with fail
    rw [← HQ.out]
    exact ChP.ok HE.out O3.out L3.out
  | false =>
    have h4 := hi_not HU.out HA.out hf
    have HE : Hid (stepV l k p = .ok (l.take i ++ (k, p) :: l.drop i)) := Lib.hid (by
      unfold stepV
      rw [HBad.out, lo_take HA.out, h4.1, if_neg h2]
      rfl)
    have hle := HA.out.le
    have h6 : n ≤ 900000 := by rw [← HLN.out]; exact HL.out
    obtain ⟨N, hN⟩ : ∃ N, w2.heap.size = N := ⟨_, rfl⟩
    obtain ⟨w3, hw3⟩ : ∃ w3, w2.alloc (.cells #[.int .u64 k, .int .i64 p] 26) = w3 := ⟨_, rfl⟩
    have hb3 : Bk w3 N 26 #[.int .u64 k, .int .i64 p] := by rw [← hw3, ← hN]; exact Bk.new _ _ _
    have hbl : Below w2.heap.size w2 w3 := by rw [← hw3]; exact (by (first | assumption | (repeat (first | exact Below.refl _ _ | assumption | apply Below.drew | apply below_drewN | (refine Below.setCell ?_ (by (try simp) <;> omega) _) | (refine Below.alloc ?_ (by (try simp) <;> omega) _)))))
    have HI := insert_any B v l i k p N 26 w3 hle (by have := HL.out; omega) (vown_bl O2.out hbl) (Nat.le_trans HB.out (Nat.le_trans L2.out.size hbl.size)) hb3 (fun e => by have := (own_cells O2.out e.symm).2.1; omega)
    rw [HV.out, HLN.out] at HI
    have HI' := Lib.hid HI
    have L3 : Hid (Below B w w3) := Lib.hid (LB.out.trans (hbl.mono (Nat.le_trans HB.out L2.out.size)))
    clear h0 h1 h2 h4 HI hb3 hbl hle
    go_wp2_with fail
    clear hN hw3
    with_reducible refine HI'.out.mono ?_
    rintro e w4 ⟨v4, rfl, ho4, hb4⟩
    have O4 := Lib.hid ho4
    have L4 : Hid (Below B w w4) := Lib.hid (L3.out.trans hb4)
    clear ho4 hb4
    go_wp2_with fail
    rw [← HQ.out]
    exact ChP.ok HE.out O4.out L4.out
end Go.Proofs.Ytlocapkofmpebaa

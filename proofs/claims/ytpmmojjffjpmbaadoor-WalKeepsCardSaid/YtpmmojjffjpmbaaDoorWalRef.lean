/- What this text proves: the contracts of the reference's Frame, Same and Frames. The conditions are how the bytes lie in memory. -/
import Derived.Test.YtpmmojjffjpmbaaDoorWalScan
import Derived.Test.YtpmmojjffjpmbaaDoorRefBlakeJ
import Derived.BigQuiet
namespace Go.Proofs.YtpmmojjffjpmbaaDoor
open Go.RowKit
set_option linter.unusedVariables false
set_option linter.unusedSimpArgs false

attribute [local irreducible] digF
set_option maxRecDepth 100000 in
set_option maxHeartbeats 4000000 in
theorem rframe_any (A : Option Addr) (r : List UInt8) (c : Nat) (w : World) (hl : r.length ≤ 4096) (hg : Part.good w (A, c, r)) :
    Calls Tryd.prog 26 #[.slice A r.length c] w fun e w' => ∃ v, e = .returned v ∧ w'.ownsRow w.heap.size 5 1 v (6 + r.length) (bts (frameF ckW r)) ∧ Below w.heap.size w w' := by
  obtain ⟨i0, hi, hz0, hz1, hz2⟩ := info_parts u8_info
  have HG := Lib.hid hg
  have HD := Lib.hid (hdr_cells r hl)
  clear hg
  go_enter Tryd.func26, Tryd.ntmps26
  go_upto_region 2 with fail
  rw [← HD.out]
  have O1 := Lib.hid (own_lit w (bts (hdrW r)).toArray 2 (by simp [bts, hdrW]) (by unfold maxLen; omega))
  have L1 : Hid (Below w.heap.size w (w.alloc (.cells (bts (hdrW r)).toArray 5))) := Lib.hid (by (first | assumption | (repeat (first | exact Below.refl _ _ | assumption | apply Below.drew | apply below_drewN | (refine Below.setCell ?_ (by (try simp) <;> omega) _) | (refine Below.alloc ?_ (by (try simp) <;> omega) _)))))
  have z1 : (w.alloc (.cells (bts (hdrW r)).toArray 5)).heap.size = w.heap.size + 1 := by simp
  obtain ⟨g1, hg1⟩ : ∃ x, w.heap.size = x := ⟨_, rfl⟩
  have hgw : w.heap.size ≤ g1 := Nat.le_of_eq hg1
  obtain ⟨w1, hw1⟩ : ∃ x, w.alloc (.cells (bts (hdrW r)).toArray 5) = x := ⟨_, rfl⟩
  rw [hw1] at O1 L1 z1 ⊢
  rw [hg1] at O1 ⊢
  clear hw1
  go_wp2_with fail
  have L2 : Hid (Below w1.heap.size w1 (w1.alloc (.cells #[.slice (some ⟨g1, 0, none⟩) 2 2, .slice A r.length c] 22))) := Lib.hid (by (first | assumption | (repeat (first | exact Below.refl _ _ | assumption | apply Below.drew | apply below_drewN | (refine Below.setCell ?_ (by (try simp) <;> omega) _) | (refine Below.alloc ?_ (by (try simp) <;> omega) _)))))
  have S2 := Lib.hid (built_sl (w := w1) (cs := [.slice (some ⟨g1, 0, none⟩) 2 2, .slice A r.length c]) (n := 2) rfl)
  rw [z1] at S2
  have z2 : (w1.alloc (.cells #[.slice (some ⟨g1, 0, none⟩) 2 2, .slice A r.length c] 22)).heap.size = g1 + 2 := by simp; omega
  obtain ⟨w2, hw2⟩ : ∃ W, w1.alloc (.cells #[.slice (some ⟨g1, 0, none⟩) 2 2, .slice A r.length c] 22) = W := ⟨_, rfl⟩
  rw [hw2] at L2 S2 z2 ⊢
  rw [hg1] at S2 z1
  have O2 := Lib.hid (own_bl O1.out L2.out)
  have B2 : Hid (Below w.heap.size w w2) := Lib.hid (L1.out.trans (L2.out.mono L1.out.size))
  clear hw2 O1 L1 L2
  have hjn := rjoin_any 4 (some ⟨g1 + 1, 0, none⟩) [(some ⟨g1, 0, none⟩, 2, hdrW r), (A, c, r)] 2 w2 (by unfold maxLen; simp) (by simp [catF, hdrW]; omega) (by show Sl w2 w2.heap.size 1 _ 2 _; exact S2.out) (fun p hp => by
    rcases List.mem_cons.1 hp with rfl | hp
    · exact ⟨by simp [hdrW], by unfold maxLen; simp, by simpa [hdrW] using own_sl_at O2.out⟩
    · rcases List.mem_cons.1 hp with rfl | hp
      · exact HG.out.below B2.out
      · cases hp)
  have hjn' : Calls Tryd.prog 35 #[.int .u8 4, .slice (some ⟨g1 + 1, 0, none⟩) 2 2] w2 fun e w' => e = .returned (.agg (bts (digF (4 :: (hdrW r ++ r)))).toArray) ∧ Below w2.heap.size w2 w' := by
    have e : joinF 4 [(some ⟨g1, 0, none⟩, 2, hdrW r), (A, c, r)] = digF (4 :: (hdrW r ++ r)) := by simp [joinF, catF]
    rw [e] at hjn
    exact hjn
  with_reducible refine hjn'.mono ?_
  rintro e w3 ⟨rfl, hb3⟩
  have O3 := Lib.hid (own_bl O2.out hb3)
  have B3 : Hid (Below w.heap.size w w3) := Lib.hid (B2.out.trans (hb3.mono B2.out.size))
  have z3 : g1 + 2 ≤ w3.heap.size := by have := hb3.size; omega
  obtain ⟨J, hJ⟩ : ∃ J, digF (4 :: (hdrW r ++ r)) = J := ⟨_, rfl⟩
  have hJl : J.length = 32 := by rw [← hJ, digF_len]
  have hck : ckW r = J.take 4 := by rw [← hJ]; rfl
  have HCK := Lib.hid hck
  rw [hJ]
  have hbl : (bts J).length = 32 := by rw [bts_len, hJl]
  have h0l : (bts hash0).length = 32 := by rw [bts_len, hash0_len]
  have hzh := zero_hash
  have O4 := Lib.hid (Bk.new w3 66 (bts hash0).toArray)
  have L4 : Hid (Below w3.heap.size w3 (w3.alloc (.cells (bts hash0).toArray 66))) := Lib.hid (by (first | assumption | (repeat (first | exact Below.refl _ _ | assumption | apply Below.drew | apply below_drewN | (refine Below.setCell ?_ (by (try simp) <;> omega) _) | (refine Below.alloc ?_ (by (try simp) <;> omega) _)))))
  clear hb3 hjn hjn' S2 O2 B2 hJ hck
  go_upto_region 3 with (refine wpList_puts (by rfl) 66 _ _ (by with_reducible rfl) w3.heap.size 0 (by rfl) (bts J) (by rfl) 66 (bts hash0) (by exact O4.out) 32 hbl (by rw [h0l]; omega) hi_hash bts_all ?_; intro w9 hb_ hm_ hz_; rw [put_hash0 _ hJl] at hb_; have HM9 := Lib.hid hm_; have HR9 := Lib.hid hb_; clear hb_ hm_ hz_)
  obtain ⟨gh, hgh⟩ : ∃ x, w3.heap.size = x := ⟨_, rfl⟩
  rw [hgh] at HR9 HM9 ⊢
  have L9 : Hid (Below w3.heap.size w3 w9) := Lib.hid (L4.out.trans (HM9.out.to_below L4.out.size (fun k o h => by omega)))
  have O9 := Lib.hid (own_bl O3.out L9.out)
  have B9 : Hid (Below w.heap.size w w9) := Lib.hid (B3.out.trans (L9.out.mono B3.out.size))
  have z9 : g1 ≤ w9.heap.size := by have := L9.out.size; omega
  have hz9 : gh < w9.heap.size := HR9.out.lt
  have hnil : Hid ((w9.alloc (.cells #[] 5)).ownsRow w9.heap.size 5 1 (.slice (some ⟨w9.heap.size, 0, none⟩) 0 0) 0 []) := Lib.hid (World.ownsRow_made (base := w9.heap.size) (e := 5) (size := 1) w9 #[] 0 (Nat.le_refl _) (by unfold maxLen; omega) (by simp))
  have L10 : Hid (Below w9.heap.size w9 (w9.alloc (.cells #[] 5))) := Lib.hid (by (first | assumption | (repeat (first | exact Below.refl _ _ | assumption | apply Below.drew | apply below_drewN | (refine Below.setCell ?_ (by (try simp) <;> omega) _) | (refine Below.alloc ?_ (by (try simp) <;> omega) _)))))
  have O10 := Lib.hid (own_sl_at (own_bl O9.out L10.out))
  clear O3 O4 L4 HM9 B3 L9 z3 hgh O9
  go_upto_region 4 with (at_builtin; refine wpList_append_sl (w9.alloc (.cells #[] 5)) (by rfl) _ _ 22 (by rfl) w9.heap.size 5 i0 _ 1 1 Tryd.underlying22 hi hz0 hz1 hz2 rfl (by omega) (.slice (some ⟨w9.heap.size, 0, none⟩) 0 0) 0 [] (by rfl) hnil.out (some ⟨g1, 0, none⟩) 2 2 (bts (hdrW r)) (by rfl) O10.out bts_one (by unfold maxLen; omega) (by omega) (by simp) ?_; intro v11 w11 ho_ hg_ hv_; have P11 := Lib.hid ho_; have L11 : Hid (Below w9.heap.size w9 w11) := Lib.hid (L10.out.grown hg_ (by simp) (fun k hk => (own_cells hnil.out hk).1)); clear ho_ hg_ hv_)
  have HR11 := Lib.hid (HR9.out.below L11.out HR9.out.lt)
  have B11 : Hid (Below w.heap.size w w11) := Lib.hid (B9.out.trans (L11.out.mono B9.out.size))
  have z11 := L11.out.size
  obtain ⟨j0, j1, j2, j3, Jr, rfl⟩ : ∃ j0 j1 j2 j3 Jr, J = j0 :: j1 :: j2 :: j3 :: Jr := by
    match J, hJl with
    | j0 :: j1 :: j2 :: j3 :: Jr, _ => exact ⟨j0, j1, j2, j3, Jr, rfl⟩
  have hc0 : w11.cell? ⟨gh, 0, none⟩ = some (.int .u8 (j0.toNat : Int)) := by rw [HR11.out.cell]; rfl
  have hc1 : w11.cell? ⟨gh, 1, none⟩ = some (.int .u8 (j1.toNat : Int)) := by rw [HR11.out.cell]; rfl
  have hc2 : w11.cell? ⟨gh, 2, none⟩ = some (.int .u8 (j2.toNat : Int)) := by rw [HR11.out.cell]; rfl
  have hc3 : w11.cell? ⟨gh, 3, none⟩ = some (.int .u8 (j3.toNat : Int)) := by rw [HR11.out.cell]; rfl
  have hck : Hid (ckW r = [j0, j1, j2, j3]) := Lib.hid (by rw [HCK.out]; rfl)
  have L12 : Hid (Below w11.heap.size w11 (w11.alloc (.cells #[.int .u8 (j0.toNat : Int), .int .u8 (j1.toNat : Int), .int .u8 (j2.toNat : Int), .int .u8 (j3.toNat : Int)] 5))) := Lib.hid (by (first | assumption | (repeat (first | exact Below.refl _ _ | assumption | apply Below.drew | apply below_drewN | (refine Below.setCell ?_ (by (try simp) <;> omega) _) | (refine Below.alloc ?_ (by (try simp) <;> omega) _)))))
  have N12 := Lib.hid (Bk.new w11 5 #[.int .u8 (j0.toNat : Int), .int .u8 (j1.toNat : Int), .int .u8 (j2.toNat : Int), .int .u8 (j3.toNat : Int)])
  have O12 := Lib.hid (own_bl P11.out L12.out)
  have S12 : Hid (Sl (w11.alloc (.cells #[.int .u8 (j0.toNat : Int), .int .u8 (j1.toNat : Int), .int .u8 (j2.toNat : Int), .int .u8 (j3.toNat : Int)] 5)) (w11.alloc (.cells #[.int .u8 (j0.toNat : Int), .int .u8 (j1.toNat : Int), .int .u8 (j2.toNat : Int), .int .u8 (j3.toNat : Int)] 5)).heap.size 1 (some ⟨w11.heap.size, 0, none⟩) 4 (bts [j0, j1, j2, j3])) :=
    Lib.hid ⟨rfl, fun _ => ⟨w11.heap.size, 0, rfl, by simp, fun j u hu => by rw [Nat.zero_add, N12.out.cell]; simpa [bts] using hu⟩⟩
  have hrow : Hid ([] ++ bts (hdrW r) ++ bts [j0, j1, j2, j3] ++ bts r = bts (frameF ckW r)) := Lib.hid (by rw [← hck.out]; simp [frameF, bts_app])
  clear HR9 HR11 hJl hbl HCK O10 hnil L10 P11
  go_upto_region 5 with (at_builtin; refine wpList_append_sl (w11.alloc (.cells #[.int .u8 (j0.toNat : Int), .int .u8 (j1.toNat : Int), .int .u8 (j2.toNat : Int), .int .u8 (j3.toNat : Int)] 5)) (by rfl) _ _ 22 (by rfl) w9.heap.size 5 i0 _ 1 1 Tryd.underlying22 hi hz0 hz1 hz2 rfl (by omega) v11 (0 + 2) ([] ++ bts (hdrW r)) (by rfl) O12.out (some ⟨w11.heap.size, 0, none⟩) 4 4 (bts [j0, j1, j2, j3]) (by rfl) S12.out bts_one (by unfold maxLen; omega) (by omega) (by simp; omega) ?_; intro v13 w13 ho_ hg_ hv_; have P13 := Lib.hid ho_; have L13 : Hid (Below w9.heap.size w9 w13) := Lib.hid ((L11.out.trans (L12.out.mono z11)).grown hg_ (by simp; omega) (fun k hk => (own_cells O12.out hk).1)); clear ho_ hg_ hv_)
  have G13 := Lib.hid (HG.out.below (B9.out.trans (L13.out.mono B9.out.size)))
  have z13 := L13.out.size
  go_wp2_with (at_builtin; refine wpList_append_sl w13 (by rfl) _ _ 22 (by rfl) w9.heap.size 5 i0 _ 1 1 Tryd.underlying22 hi hz0 hz1 hz2 rfl (by omega) v13 (0 + 2 + 4) ([] ++ bts (hdrW r) ++ bts [j0, j1, j2, j3]) (by rfl) P13.out A r.length c (bts r) (by rfl) G13.out.2.2 bts_one (by unfold maxLen; omega) (by omega) z13 ?_; intro v14 w14 ho_ hg_ hv_; have P14 := Lib.hid ho_; have L14 : Hid (Below w9.heap.size w9 w14) := Lib.hid (L13.out.grown hg_ z13 (fun k hk => (own_cells P13.out hk).1)); clear ho_ hg_ hv_)
  go_ret
  refine ⟨v14, rfl, ?_, B9.out.trans (L14.out.mono B9.out.size)⟩
  have := P14.out
  rw [hrow.out] at this
  exact own_low this B9.out.size


/-- Two lists of bytes, compared as strings. -/
theorem str_beq (xs ys : List UInt8) : ((strOf xs).toList == (strOf ys).toList) = decide (xs = ys) := strOf_eq xs ys

set_option maxRecDepth 100000 in
set_option maxHeartbeats 4000000 in
theorem rsame_any (A A' : Option Addr) (l m : List Part) (a b c c' : Nat) (hla : l.length = a) (hmb : m.length = b) (w : World) (ha : a ≤ 1000000) (hb : b ≤ 1000000) (hA : Sl w w.heap.size 1 A a (l.map slv)) (hA' : Sl w w.heap.size 1 A' b (m.map slv)) (hg : ∀ p ∈ l, p.good w) (hg' : ∀ p ∈ m, p.good w) :
    Calls Tryd.prog 11 #[.slice A a c, .slice A' b c'] w fun e w' => e = .returned (.bool (decide (l.map dat = m.map dat))) ∧ Below w.heap.size w w' := by
  by_cases hab : a = b
  · have e0 : ((a : Int) != (b : Int)) = false := by simp [hab]
    have e0' : ((a : Int) == (b : Int)) = true := by simp [hab]
    have HA := Lib.hid hA
    have HA' := Lib.hid hA'
    have HG := Lib.hid hg
    have HG' := Lib.hid hg'
    have HLA := Lib.hid hla
    have HMB := Lib.hid hmb
    have HAB := Lib.hid hab
    clear hA hA' hg hg' hla hmb hab
    go_enter Tryd.func11, Tryd.ntmps11
    go_wp2_with fail
    go_loopw [5] (fun i wr => ∃ k : Nat, k ≤ a ∧ i = .int .i64 k ∧ (l.take k).map dat = (m.take k).map dat ∧ Below w.heap.size w wr) (fun i _ => a - (intOf i).toNat)
    case atStart => exact ⟨0, by omega, rfl, rfl, Below.refl _ _⟩
    case round =>
      obtain ⟨k, hk, rfl, heq, hbl⟩ := hrel
      have HE := Lib.hid heq
      have HB := Lib.hid hbl
      clear heq hbl
      by_cases hlt : k < a
      · have e1 : decide ((k : Int) < (a : Int)) = true := by simp; omega
        have k1 : (k : Int) < (b : Int) := by have := HAB.out; omega
        have k2 : (k : Int) < (a : Int) := by omega
        obtain ⟨p, hp⟩ : ∃ p, l[k]? = some p := ⟨_, List.getElem?_eq_getElem (by have := HLA.out; omega)⟩
        obtain ⟨q, hq⟩ : ∃ q, m[k]? = some q := ⟨_, List.getElem?_eq_getElem (by have := HMB.out; have := HAB.out; omega)⟩
        obtain ⟨b1, o1, rfl, hb1, hc1⟩ := HA.out.at_ (by omega)
        obtain ⟨b2, o2, rfl, hb2, hc2⟩ := HA'.out.at_ (by have := HAB.out; omega)
        have d1 : wr.cell? ⟨b1, o1 + k, none⟩ = some (slv p) := (HB.out.cell (p := ⟨b1, o1 + k, none⟩) hb1).trans (hc1 k (slv p) (by rw [List.getElem?_map, hp]; rfl))
        have d2 : wr.cell? ⟨b2, o2 + k, none⟩ = some (slv q) := (HB.out.cell (p := ⟨b2, o2 + k, none⟩) hb2).trans (hc2 k (slv q) (by rw [List.getElem?_map, hq]; rfl))
        have hgp := (HG.out p (List.mem_of_getElem? hp)).2.2
        have hgq := (HG'.out q (List.mem_of_getElem? hq)).2.2
        have htp := take_at hp
        have htq := take_at hq
        obtain ⟨pa, pc, pl⟩ := p
        obtain ⟨qa, qc, ql⟩ := q
        simp only [slv] at d1 d2 hgp hgq
        have h1 := fun n => run_conv (P := Tryd.prog) (w := wr.drewN n) (dst := 9) Tryd.underlying22 Tryd.underlying5 Tryd.underlying9 pc (below_drewN HB.out n |> fun h => hgp.below h)
        have h2 := fun n => run_conv (P := Tryd.prog) (w := wr.drewN n) (dst := 9) Tryd.underlying22 Tryd.underlying5 Tryd.underlying9 qc (below_drewN HB.out n |> fun h => hgq.below h)
        have HS := Lib.hid (str_beq pl ql)
        have HT := Lib.hid (And.intro htp htq)
        obtain ⟨X, hX⟩ : ∃ X, strOf pl = X := ⟨_, rfl⟩
        obtain ⟨Y, hY⟩ : ∃ Y, strOf ql = Y := ⟨_, rfl⟩
        rw [hX, hY] at HS
        rw [hX] at h1
        rw [hY] at h2
        clear hc1 hc2 hgp hgq htp htq hp hq hX hY
        by_cases hpq : pl = ql
        · have e2 : (X.toList == Y.toList) = true := by rw [HS.out]; exact decide_eq_true hpq
          have e3 : (X.toList != Y.toList) = false := by rw [bne, e2]; rfl
          have HPQ := Lib.hid hpq
          clear hpq
          go_wp2_with fail
          go_quiet (fail)
          go_wp2_with fail
          go_roundw
          case rel => exact ⟨k + 1, by omega, by go_num, by rw [HT.out.1, HT.out.2, List.map_append, List.map_append, HE.out]; simp [dat, HPQ.out], below_drewN HB.out nq⟩
          case measure => simp [intOf]; omega
        · have e2 : (X.toList == Y.toList) = false := by rw [HS.out]; exact decide_eq_false hpq
          have e3 : (X.toList != Y.toList) = true := by rw [bne, e2]; rfl
          have HPQ := Lib.hid hpq
          clear hpq
          go_wp2_with fail
          go_quiet (fail)
          go_wp2_with fail
          go_ret
          refine ⟨ret_bool (decide_eq_false (fun e => HPQ.out ?_)).symm, below_drewN HB.out nq⟩
          have h := congrArg (List.take (k + 1)) e
          rw [← List.map_take, ← List.map_take, HT.out.1, HT.out.2, List.map_append, List.map_append, HE.out] at h
          simpa [dat] using List.append_cancel_left h
      · obtain rfl : k = a := by omega
        have e1 : decide ((k : Int) < (k : Int)) = false := by simp
        go_wp2_with fail
        go_ret
        refine ⟨ret_bool ?_, HB.out⟩
        have := HE.out
        rw [List.take_of_length_le (by rw [HLA.out]; exact Nat.le_refl _), List.take_of_length_le (by rw [HMB.out, HAB.out]; exact Nat.le_refl _)] at this
        exact (decide_eq_true this).symm
  · have e0 : ((a : Int) != (b : Int)) = true := by simp; omega
    have e0' : ((a : Int) == (b : Int)) = false := by simp; omega
    have HN : Hid (l.map dat ≠ m.map dat) := Lib.hid (fun e => hab (by have := congrArg List.length e; simp at this; omega))
    clear hA hA' hg hg' hab
    go_enter Tryd.func11, Tryd.ntmps11
    go_wp2_with fail
    go_ret
    exact ⟨ret_bool (decide_eq_false HN.out).symm, Below.refl _ _⟩
end Go.Proofs.YtpmmojjffjpmbaaDoor

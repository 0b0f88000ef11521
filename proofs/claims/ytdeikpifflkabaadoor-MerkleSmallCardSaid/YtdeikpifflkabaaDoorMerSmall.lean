/- What this text proves: the walk of the statement MerkleSmall: it returns true. The conditions: how its arguments lie in memory; that the package's table is as its text lays it. -/
import Derived.Test.YtdeikpifflkabaaDoorMerProve
import Derived.Test.YtdeikpifflkabaaDoorMerAlive
namespace Go.Proofs.YtdeikpifflkabaaDoor
open Go.RowKit Go.Shelf
set_option linter.unusedVariables false
set_option linter.unusedSimpArgs false

theorem idxs_some {l : List Ent} {n i : Nat} {key : ByteArray} (hn : l.length = n) (h0 : 0 < n) (hlow : LowK l key i) : 1 ≤ (idxs n i (foundK l key i)).length := by
  have hle := hlow.le
  cases hf : foundK l key i with
  | true =>
    obtain ⟨e, he, _⟩ := low_found hlow hf
    have hi : i < n := by rw [← hn]; exact (List.getElem?_eq_some_iff.1 he).1
    unfold idxs
    rw [if_pos rfl, if_pos hi]
    simp
  | false =>
    unfold idxs
    rw [if_neg (by simp)]
    by_cases h1 : 1 ≤ i
    · rw [if_pos h1]; simp
    · rw [if_neg h1, if_pos (by omega)]; simp
theorem PartsOf.at_ {l : List Ent} : ∀ {ps : List PartV} {js : List Nat} {k : Nat} {p : PartV}, PartsOf l ps js → ps[k]? = some p → ∃ j, js[k]? = some j ∧ IsPart l p j
  | [], [], k, p, _, h => by simp at h
  | q :: ps, j :: js, 0, p, h, hp => by
    have : q = p := by simpa using hp
    subst this
    exact ⟨j, by simp, h.1⟩
  | q :: ps, j :: js, k + 1, p, h, hp => by
    obtain ⟨j', h1, h2⟩ := PartsOf.at_ (k := k) h.2 (by simpa using hp)
    exact ⟨j', by simpa using h1, h2⟩
/-- The second part's index is the first's and one. -/
theorem idxs_next {n i k a b : Nat} {f : Bool} (ha : (idxs n i f)[k]? = some a) (hb : (idxs n i f)[k + 1]? = some b) : b = a + 1 := by
  unfold idxs at ha hb
  cases f with
  | true =>
    rw [if_pos rfl, List.nil_append] at ha hb
    split at hb <;> simp at hb
  | false =>
    rw [if_neg (by simp)] at ha hb
    by_cases h1 : 1 ≤ i
    · rw [if_pos h1] at ha hb
      by_cases h2 : i < n
      · rw [if_pos h2] at ha hb
        match k, ha, hb with
        | 0, ha, hb =>
          simp at ha hb
          omega
        | k + 1, ha, hb => simp at hb
      · rw [if_neg h2] at ha hb
        simp at hb
    · rw [if_neg h1, List.nil_append] at ha hb
      split at hb <;> simp at hb

attribute [local irreducible] digF
set_option maxRecDepth 100000 in
set_option maxHeartbeats 8000000 in
theorem small_any (A : Option Addr) (l : List Ent) (n : Nat) (hn : l.length = n) (c : Nat) (key : ByteArray) (w : World) (hr : Roots w) (h0 : 0 < w.heap.size) (hlc : n ≤ c) (hcm : c ≤ maxLen) (hA : Sl w w.heap.size 2 A l.length (eCells l)) :
    Calls Tryd.prog 6 #[.slice A n c, .string key] w fun e w' => e = .returned (.bool true) ∧ Below w.heap.size w w' := by
  have HR := Lib.hid hr
  have HA := Lib.hid hA
  have HN := Lib.hid hn
  have hAl := Lib.hid fun W (hb : Below w.heap.size w W) => alive_any W (hr.below hb h0) (Nat.lt_of_lt_of_le h0 hb.size)
  have hF1 := few_any A l c w (by omega) hA
  rw [hn] at hF1
  have HF1 := Lib.hid hF1
  clear hr hA hcm hF1 hn
  go_enter Tryd.func6, Tryd.ntmps6
  go_wp2_with fail
  with_reducible refine HF1.out.mono ?_
  rintro e w1 ⟨b1, rfl, hb1, hB1⟩
  have B2 := Lib.hid hB1
  have F1 := Lib.hid hb1
  clear hB1 hb1 HF1
  cases b1 with
  | false =>
    go_wp2_with fail
    with_reducible refine (hAl.out _ B2.out).mono ?_
    rintro e w3 ⟨rfl, hb3⟩
    go_wp2_with fail
    go_ret
    exact ⟨rfl, B2.out.trans (hb3.mono B2.out.size)⟩
  | true =>
  obtain ⟨hl7, hfl⟩ := F1.out rfl
  have FL := Lib.hid hfl
  clear hfl F1
  have hR1 := right_any A l c w1 (by rw [HN.out]; exact hl7) FL.out ((HA.out.below B2.out).more B2.out.size)
  rw [HN.out] at hR1
  have HR1 := Lib.hid hR1
  clear hR1
  go_wp2_with fail
  obtain ⟨s1, hs1⟩ : ∃ s, ascK l = s := ⟨_, rfl⟩
  rw [hs1] at HR1
  have HS1 := Lib.hid hs1
  clear hs1
  with_reducible refine HR1.out.mono ?_
  rintro e w3 ⟨rfl, hb3⟩
  have B4 := Lib.hid (B2.out.trans (hb3.mono B2.out.size))
  clear hb3 HR1 B2
  cases s1 with
  | false =>
    go_wp2_with fail
    with_reducible refine (hAl.out _ B4.out).mono ?_
    rintro e w4 ⟨rfl, hb4⟩
    go_wp2_with fail
    go_ret
    exact ⟨rfl, B4.out.trans (hb4.mono B4.out.size)⟩
  | true =>
  have HPR := Lib.hid (prove_any A l n HN.out c key w3 hl7 FL.out HS1.out (HR.out.below B4.out h0) (Nat.lt_of_lt_of_le h0 B4.out.size) ((HA.out.below B4.out).more B4.out.size))
  go_wp2_with fail
  with_reducible refine HPR.out.mono ?_
  rintro e w7 ⟨i, ps, P, c', hlow, hof, rfl, hin, hb7⟩
  have B7 := Lib.hid (B4.out.trans (hb7.mono B4.out.size))
  have hlen : ps.length ≤ 2 := by rw [hof.len]; exact idxs_len _ _ _
  have hsome : 0 < n → 1 ≤ ps.length := fun h => by rw [hof.len]; exact idxs_some HN.out h hlow
  have HIN := Lib.hid hin
  have HOF := Lib.hid hof
  have LOW := Lib.hid hlow
  obtain ⟨m, hm⟩ : ∃ m, ps.length = m := ⟨_, rfl⟩
  have HM := Lib.hid hm
  rw [hm] at hlen hsome ⊢
  clear hb7 HPR B4 hin hof hlow hm
  go_upto_region 5 with fail
  have KP8 := Bk.new w7 38 #[.int .i64 (n : Int), .slice P m c']
  have hb78 : Below w7.heap.size w7 (w7.alloc (.cells #[.int .i64 (n : Int), .slice P m c'] 38)) := (by (first | assumption | (repeat (first | exact Below.refl _ _ | assumption | apply Below.drew | apply below_drewN | (refine Below.setCell ?_ (by (try simp) <;> omega) _) | (refine Below.alloc ?_ (by (try simp) <;> omega) _)))))
  obtain ⟨w8, hw8⟩ : ∃ W, w7.alloc (.cells #[.int .i64 (n : Int), .slice P m c'] 38) = W := ⟨_, rfl⟩
  obtain ⟨gb, hgb⟩ : ∃ g, w7.heap.size = g := ⟨_, rfl⟩
  rw [hw8] at KP8 hb78 ⊢
  have B8 := Lib.hid (B7.out.trans (hb78.mono B7.out.size))
  have HIN8 := Lib.hid (HIN.out.below hb78)
  rw [hgb] at KP8 ⊢
  have c0 := KP8.cell 0
  have c1 := KP8.cell 1
  have KP := Lib.hid KP8
  have hz8 : w.heap.size ≤ w8.heap.size := B8.out.size
  have e1 : decide ((2 : Int) < (m : Int)) = false := decide_eq_false (by omega)
  have e1' : decide (2 < m) = false := decide_eq_false (by omega)
  clear hw8 hgb KP8 hb78 B7 HIN
  rcases Nat.eq_zero_or_pos n with hz | hpos
  · subst hz
    have HZ : Hid (m = 0) := Lib.hid (by
      rw [← HM.out, HOF.out.len]
      have := LOW.out.le
      rw [HN.out] at this
      obtain rfl : i = 0 := by omega
      unfold idxs
      simp)
    obtain rfl := HZ.out
    clear HZ hsome hlen e1 e1'
    go_wp2_with fail
    go_loopw [8] (fun s wr => s = .int .i64 0 ∧ wr = w8) (fun _ _ => 0)
    case atStart => exact ⟨rfl, rfl⟩
    case round =>
      obtain ⟨rfl, rfl⟩ := hrel
      go_wp2_with fail
      go_loopw [9] (fun s ws => s = .int .i64 0 ∧ ws = wr) (fun _ _ => 0)
      case atStart => exact ⟨rfl, rfl⟩
      case round =>
        obtain ⟨rfl, rfl⟩ := hrel
        go_wp2_with fail
        with_reducible refine (hAl.out _ B8.out).mono ?_
        rintro e w11 ⟨rfl, hb11⟩
        go_wp2_with fail
        go_ret
        exact ⟨rfl, B8.out.trans (hb11.mono B8.out.size)⟩
  · have hm1 := hsome hpos
    have e2 : decide ((0 : Int) < (n : Int)) = true := decide_eq_true (by omega)
    have e2' : decide (0 < n) = true := decide_eq_true (by omega)
    have e3 : ((m : Int) == 0) = false := by simp; omega
    have e3' : ¬ m = 0 := by omega
    clear hsome
    go_wp2_with fail
    go_loopw [8] (fun s wr => ∃ d : Nat, d ≤ 7 ∧ (d = 0 ∨ 2 ^ (d - 1) < n) ∧ s = .int .i64 d ∧ wr = w8) (fun s _ => 8 - (intOf s).toNat)
    case atStart => exact ⟨0, by omega, .inl rfl, rfl, rfl⟩
    case round =>
      obtain ⟨d, hd, hdn, rfl, rfl⟩ := hrel
      obtain ⟨P2, hP2⟩ : ∃ x, 2 ^ d = x := ⟨_, rfl⟩
      have d1 : (d : Int) < 64 := by omega
      have d2 : IntKind.u64.wrap (d : Int) = (d : Int) := IntWalk.u64_in _ (by omega)
      have hw : ∀ j : Fin 8, wrap64 ((2 : Int) ^ j.val) = ((2 ^ j.val : Nat) : Int) := by decide +kernel
      have d3 : wrap64 ((2 : Int) ^ d) = (P2 : Int) := by rw [← hP2]; exact hw ⟨d, by omega⟩
      clear hw
      by_cases hlt : P2 < n
      · have d4 : decide ((P2 : Int) < (n : Int)) = true := decide_eq_true (by omega)
        have d4' : decide (P2 < n) = true := decide_eq_true (by omega)
        have hd7 : d + 1 ≤ 7 := by
          refine Nat.le_of_not_lt fun h => ?_
          obtain rfl : d = 7 := by omega
          rw [← hP2] at hlt
          omega
        go_wp2_with fail
        go_roundw
        case rel => exact ⟨d + 1, hd7, .inr (by rw [Nat.add_sub_cancel, hP2]; exact hlt), by go_num, trivial⟩
        case measure => simp [intOf]; omega
      · have d4 : decide ((P2 : Int) < (n : Int)) = false := decide_eq_false (by omega)
        have d4' : decide (P2 < n) = false := decide_eq_false (by omega)
        have HD := Lib.hid (show n ≤ 2 ^ d by rw [hP2]; omega)
        clear hP2
        go_wp2_with fail
        go_loopw [9] (fun s ws => ∃ k : Nat, k ≤ m ∧ s = .int .i64 k ∧ Below wr.heap.size wr ws) (fun s _ => m - (intOf s).toNat)
        case atStart => exact ⟨0, by omega, rfl, Below.refl _ _⟩
        case round =>
          obtain ⟨k, hk, rfl, hbel⟩ := hrel
          have HB := Lib.hid hbel
          have BR := Lib.hid (B8.out.trans (hbel.mono B8.out.size))
          have KPR := KP.out.below hbel KP.out.lt
          have c1' := KPR.cell 1
          have HINR := Lib.hid (HIN8.out.below hbel)
          clear hbel KPR c0 c1
          by_cases hlt : k < m
          · have hlt' : (k : Int) < (m : Int) := by omega
            obtain ⟨P', cc, hpe, hp1, hp2, hp3⟩ := own_sl HINR.out.row
            injection hpe with q1 q2 q3
            subst q1
            obtain ⟨b, off, p, rfl, hb, hpk, hc0, hc1, hc2, hc3⟩ := hp3.pt (k := k) (by have := HM.out; omega)
            obtain ⟨j, hj, hip⟩ := HOF.out.at_ hpk
            have hjn : j < n := by have := hip.lt; have := HN.out; omega
            have hidx := hip.idx
            have hpath : p.path.length ≤ d := by rw [hip.path, wayE_len n l j HN.out]; exact turnsL_deep d n j HD.out
            obtain ⟨⟨idx, ⟨pk, pv⟩, pA, path, pc⟩, hpe⟩ : ∃ q, q = p := ⟨p, rfl⟩
            subst hpe
            simp only at hc0 hc1 hc2 hc3 hidx hpath
            subst hidx
            have hle := hip.e
            simp only at hle
            obtain ⟨bl, ol, ke, va, rfl, hbl, hl0, hl1, hle'⟩ := HA.out.ent (k := j) (by have := HN.out; omega)
            rw [hle] at hle'
            injection hle' with hle'
            injection hle' with h1_ h2_
            subst h1_
            subst h2_
            have l0 := (BR.out.cell (p := ⟨bl, ol + j * 2, none⟩) hbl).trans hl0
            have l1 := (BR.out.cell (p := ⟨bl, ol + j * 2 + 1, none⟩) hbl).trans hl1
            have E0 := ent_neq pk pv pk pv
            rw [decide_eq_true (p := (pk, pv) = (pk, pv)) rfl, Bool.not_true] at E0
            have s1 : decide ((j : Int) < 0) = false := decide_eq_false (by omega)
            have s2 : decide ((n : Int) ≤ (j : Int)) = false := decide_eq_false (by omega)
            have s2' : decide (n ≤ j) = false := decide_eq_false (by omega)
            have s3 : decide ((d : Int) < (path.length : Int)) = false := decide_eq_false (by omega)
            have s3' : decide (d < path.length) = false := decide_eq_false (by omega)
            have s4 : (j : Int) < (n : Int) := by omega
            have HJ := Lib.hid hj
            have HKM := Lib.hid hlt
            have HM2 := Lib.hid hlen
            have HPK := Lib.hid hpk
            clear hp1 hp2 hl0 hl1 hle hip hpk hj hpath hm1 e1 e1' e2 e2' e3 e3' d1 d2 d3 d4 d4' hd hdn hlt
            go_upto_region 14 with fail
            have K10 := Bk.new wr 41 #[.int .i64 (j : Int), .string pk, .string pv, .slice pA path.length pc]
            have hb10 : Below wr.heap.size wr (wr.alloc (.cells #[.int .i64 (j : Int), .string pk, .string pv, .slice pA path.length pc] 41)) := (by (first | assumption | (repeat (first | exact Below.refl _ _ | assumption | apply Below.drew | apply below_drewN | (refine Below.setCell ?_ (by (try simp) <;> omega) _) | (refine Below.alloc ?_ (by (try simp) <;> omega) _)))))
            obtain ⟨w10, hw10⟩ : ∃ W, wr.alloc (.cells #[.int .i64 (j : Int), .string pk, .string pv, .slice pA path.length pc] 41) = W := ⟨_, rfl⟩
            obtain ⟨gq, hgq⟩ : ∃ g, wr.heap.size = g := ⟨_, rfl⟩
            rw [hw10] at K10 hb10 ⊢
            have KPW := KP.out.below (HB.out.trans (hb10.mono HB.out.size)) KP.out.lt
            have x1 := KPW.cell 1
            have m0 := (hb10.cell (p := ⟨bl, ol + j * 2, none⟩) (Nat.lt_of_lt_of_le hbl BR.out.size)).trans l0
            have m1 := (hb10.cell (p := ⟨bl, ol + j * 2 + 1, none⟩) (Nat.lt_of_lt_of_le hbl BR.out.size)).trans l1
            have HB10 := Lib.hid (HB.out.trans (hb10.mono HB.out.size))
            have HB10' := Lib.hid hb10
            rw [hgq] at K10 ⊢
            have y0 := K10.cell 0
            have y1 := K10.cell 1
            have y2 := K10.cell 2
            have y3 := K10.cell 3
            clear hw10 hb10 K10 KPW l0 l1 hc0 hc1 hc2 hc3 c1' HB hgq
            rcases Nat.eq_zero_or_pos k with hk0 | hk0
            · have z1 : decide ((0 : Int) < (k : Int)) = false := decide_eq_false (by omega)
              have z1' : decide (0 < k) = false := decide_eq_false (by omega)
              clear hk0
              go_quiet (fail)
              go_wp2_with fail
              go_roundw
              case rel => exact ⟨k + 1, by have := HKM.out; omega, by go_num, by have hbel := HB10.out; (first | assumption | (repeat (first | exact Below.refl _ _ | assumption | apply Below.drew | apply below_drewN | (refine Below.setCell ?_ (by (try simp) <;> omega) _) | (refine Below.alloc ?_ (by (try simp) <;> omega) _))))⟩
              case measure => have := HKM.out; simp [intOf]; omega
            · have z1 : decide ((0 : Int) < (k : Int)) = true := decide_eq_true (by omega)
              have z1' : decide (0 < k) = true := decide_eq_true (by omega)
              obtain ⟨k1, hk1⟩ : ∃ k1, k = k1 + 1 := ⟨k - 1, by omega⟩
              obtain ⟨b', off', p0, e0, hb0, hpk0, hd0, _⟩ := hp3.pt (k := k1) (by have := HM.out; omega)
              injection e0 with e0
              injection e0 with e01 e02
              subst e01
              subst e02
              obtain ⟨j0, hj0, hip0⟩ := HOF.out.at_ hpk0
              have hnx : j = j0 + 1 := idxs_next hj0 (by rw [← hk1]; exact HJ.out)
              rw [hip0.idx] at hd0
              have x2 := (HB10'.out.cell (p := ⟨b, off + k1 * 4, none⟩) hb0).trans hd0
              have v1 : (k : Int) - 1 = (k1 : Int) := by omega
              have v2 : (k : Int) < 3 := by omega
              have v5 : (j0 : Int) < 100 := by omega
              have v3 : (k1 : Int) < (m : Int) := by omega
              have v4 : (j0 : Int) + 1 = (j : Int) := by omega
              clear hk0 hk1 hnx hip0 hj0 hpk0 hd0
              go_quiet (fail)
              go_wp2_with fail
              go_roundw
              case rel => exact ⟨k + 1, by have := HKM.out; omega, by go_num, by have hbel := HB10.out; (first | assumption | (repeat (first | exact Below.refl _ _ | assumption | apply Below.drew | apply below_drewN | (refine Below.setCell ?_ (by (try simp) <;> omega) _) | (refine Below.alloc ?_ (by (try simp) <;> omega) _))))⟩
              case measure => have := HKM.out; simp [intOf]; omega
          · obtain rfl : k = m := by omega
            clear e1 e1' e2 e2' e3 e3' d1 d2 d3 d4 d4'
            go_wp2_with fail
            with_reducible refine (hAl.out _ BR.out).mono ?_
            rintro e w11 ⟨rfl, hb11⟩
            go_wp2_with fail
            go_ret
            exact ⟨rfl, BR.out.trans (hb11.mono BR.out.size)⟩
theorem small_walk (A : Option Addr) (l : List Ent) (c : Nat) (hlc : l.length ≤ c) (hcm : c ≤ maxLen) {w : World} (hA : Sl w w.heap.size 2 A l.length (eCells l)) (key : ByteArray) (_ : World) (hr : Roots w ∧ 0 < w.heap.size) :
    Calls Tryd.prog 6 #[.slice A l.length c, .string key] w fun e w' => e = .returned (.bool true) ∧ Below w.heap.size w w' := small_any A l l.length rfl c key w hr.1 hr.2 hlc hcm hA
end Go.Proofs.YtdeikpifflkabaaDoor

/- What this text proves: the contract of the reference's Sum: it is the digest. The conditions are how the bytes lie in memory and that they are not too many. -/
import Derived.Test.YtdeikpifflkabaaDoorRefBlakeQ
import Derived.Test.YtdeikpifflkabaaDoorBlakeOwn
import Derived.Laws.IdiomCopy
namespace Go.Proofs.YtdeikpifflkabaaDoor
open Go.RowKit
set_option linter.unusedVariables false
set_option linter.unusedSimpArgs false

theorem hNew_eq : rootsL.set 0 (bits .xor .u32 (rootsL.getD 0 0) 16842784) = hNew := by decide +kernel

theorem hi_u8sz : (Tryd.prog.info? 5).map (·.size) = some 1 := by kernel_rfl
def zero64 : List UInt8 := List.replicate 64 0
theorem make_64 (W : World) : (Instr.makeSlice 59 (.int .i64 64) (.int .i64 64)).run Tryd.prog W = .ok (.slice (some ⟨W.heap.size, 0, none⟩) 64 64) (W.alloc (.cells (bts zero64).toArray 5)) := by
  obtain ⟨i, hi, hz0, hz1, hz2⟩ := info_parts u8_info
  have hr := run_make (P := Tryd.prog) W 59 5 i (.int .u8 0) Tryd.underlying59 hi hz0 .i64 .i64 64 64 (by omega) (by omega) (by rw [hz2]; omega) (by omega)
  rw [hz1] at hr
  have e : madeCells (Value.int .u8 0).cells ((64 : Int).toNat * 1) = (bts zero64).toArray := by
    apply Array.ext'
    rw [show (Value.int .u8 0).cells = #[Value.int .u8 0] from rfl, toList_madeCells_one]
    simp [bts, zero64]
  rw [e] at hr
  exact hr

theorem bts_zero64 : bts zero64 = List.replicate 64 (.int .u8 0) := by rfl
theorem pad_put (S : List UInt8) (h : S.length ≤ 64) : put (bts zero64) 0 (bts S) = bts (padB S) := by
  rw [bts_zero64]
  unfold put padB
  rw [List.take_zero, List.nil_append, Nat.zero_add, bts_len, List.drop_replicate, List.take_of_length_le h]
  unfold bts
  rw [List.map_append, List.map_replicate]
  rfl

set_option maxRecDepth 100000 in
set_option maxHeartbeats 8000000 in
theorem rsum_any (A : Option Addr) (l : List UInt8) (c : Nat) (w : World) (hl : l.length ≤ 1000000000) (hlc : l.length ≤ c) (hA : Sl w w.heap.size 1 A l.length (bts l)) :
    Calls Tryd.prog 28 #[.slice A l.length c] w fun e w' => e = .returned (.agg (bts (digF l)).toArray) ∧ Below w.heap.size w w' := by
  have hzh := zero_hash
  have hmk := make_64
  have HSl := Lib.hid hA
  obtain ⟨i0, hi, hz0, hz1, hz2⟩ := info_parts u32_info
  clear hA
  go_enter Tryd.func28, Tryd.ntmps28
  go_upto_region 1 with fail
  have O1 := Bk.new w 26 (bts hash0).toArray
  have L1 : Below w.heap.size w (w.alloc (.cells (bts hash0).toArray 26)) := (by (first | assumption | (repeat (first | exact Below.refl _ _ | assumption | apply Below.drew | apply below_drewN | (refine Below.setCell ?_ (by (try simp) <;> omega) _) | (refine Below.alloc ?_ (by (try simp) <;> omega) _)))))
  obtain ⟨go, hgo⟩ : ∃ x, w.heap.size = x := ⟨_, rfl⟩
  obtain ⟨w1, hw1⟩ : ∃ x, w.alloc (.cells (bts hash0).toArray 26) = x := ⟨_, rfl⟩
  rw [hw1] at O1 L1 ⊢
  rw [hgo] at O1 L1 HSl ⊢
  have hgo1 := O1.lt
  obtain ⟨g2, hg2⟩ : ∃ x, w1.heap.size = x := ⟨_, rfl⟩
  rw [hg2] at hgo1
  have HG2 := Lib.hid hg2
  have HG := Lib.hid hgo
  have O1 := Lib.hid O1
  have L1 := Lib.hid L1
  clear hw1 hg2 hgo
  go_wp2_with fail
  go_loopw [3, 4] (fun v i W => ∃ (k : Nat), k ≤ 8 ∧ i = .int .i64 k ∧ W.ownsRow g2 81 1 v k (u32s (rootsL.take k)) ∧ Below g2 w1 W) (fun _ i _ => 8 - (intOf i).toNat)
  case atStart => exact ⟨0, by omega, rfl, World.ownsRow_nil _ _ _ _, by rw [← HG2.out]; exact Below.refl _ _⟩
  case round =>
    obtain ⟨k, hk, rfl, ho, hbel⟩ := hrel
    have O := Lib.hid ho
    have L9 := Lib.hid hbel
    clear ho hbel
    by_cases hlt : k < 8
    · have hlt' : (k : Int) < 8 := by omega
      have hsz9 := L9.out.size
      rw [HG2.out] at hsz9
      go_wp2_with fail
      with_reducible refine (rroot_any k hlt _).mono ?_
      rintro e w8 ⟨rfl, hb8⟩
      have O8 := Lib.hid (own_bl O.out hb8)
      have L8 : Hid (Below g2 w1 w8) := Lib.hid (L9.out.trans (hb8.mono hsz9))
      have hsz8 := L8.out.size
      rw [HG2.out] at hsz8
      have hroot : Hid (u32s (rootsL.take k) ++ [.int .u32 (rootsL.getD k 0)] = u32s (rootsL.take (k + 1))) := Lib.hid (by
        have : rootsL[k]? = some (rootsL.getD k 0) := by rw [List.getD_eq_getElem?_getD, List.getElem?_eq_getElem (by simpa [rootsL] using hlt)]; rfl
        rw [take_at this]; simp [u32s])
      obtain ⟨z, hz⟩ : ∃ z, rootsL.getD k 0 = z := ⟨_, rfl⟩
      rw [hz] at hroot ⊢
      clear hb8 O L9 hz
      have C1 := Lib.hid (World.news_of_block (cs := #[.int .u32 z]) (t := 81) (fr := (0, 0)) (heap_alloc_new w8 _))
      go_wp2_with (refine wpList_append_lies (w := w8.alloc (.cells #[.int .u32 z] 81)) (by rfl) _ _ 80 (by rfl) g2 81 i0 _ 1 4 Tryd.underlying80 hi hz0 hz1 hz2 rfl (by omega) _ k (u32s (rootsL.take k)) (by rfl) (O8.out.alloc _) ⟨w8.heap.size, 0, none⟩ 1 1 [.int .u32 z] (by rfl) (by rfl) (by exact C1.out) (by simp [Value.oneCell']) (by omega) (by unfold maxLen; omega) (by omega) (by simp; omega) _ (by rfl) ?_; intro gg cap w3 hown2 hgrow hat hlt_)
      have L2 : Hid (Below g2 w1 w3) := Lib.hid ((L8.out.alloc hsz8 _).grown hgrow (by simp; omega) (fun k hk => (own_cells O8.out hk).1))
      have O2 : Hid (w3.ownsRow g2 81 1 (.slice (some ⟨gg, 0, none⟩) (k + 1) cap) (k + 1) (u32s (rootsL.take (k + 1)))) := Lib.hid (by rw [← hroot.out]; exact hown2)
      clear hown2 hgrow hat hlt_ C1
      go_roundw
      case rel => exact ⟨k + 1, by omega, by go_num, O2.out, L2.out⟩
      case measure => simp [intOf]; omega
    · obtain rfl : k = 8 := by omega
      obtain ⟨wa, rfl⟩ : ∃ x, x = wr := ⟨_, rfl⟩
      rw [show ((8 : Nat) : Int) = 8 from rfl]
      have ho := O.out
      rw [List.take_of_length_le (by simp [rootsL])] at ho
      obtain ⟨gh, ch, rfl, hgh, hgh2⟩ := ho.form (by omega)
      have v0 : wa.cell? ⟨gh, 0, none⟩ = some (.int .u32 (rootsL.getD 0 0)) := by rw [ho.cellAt 0 (by omega)]; rfl
      have fz := ho.frozenAt 0
      have hst := (ho.stored 0 (.int .u32 (bits .xor .u32 (rootsL.getD 0 0) 16842784))).1
      rw [show (u32s rootsL).set 0 (.int .u32 (bits .xor .u32 (rootsL.getD 0 0) 16842784)) = u32s hNew from by rw [← hNew_eq]; simp [u32s, List.map_set]] at hst
      have OB := Lib.hid hst
      have LB := Lib.hid (below_far L9.out gh 0 (.int .u32 (bits .xor .u32 (rootsL.getD 0 0) 16842784)) hgh)
      obtain ⟨r0, hr0⟩ : ∃ x, rootsL.getD 0 0 = x := ⟨_, rfl⟩
      rw [hr0] at v0 OB LB
      clear hst ho O L9 hr0
      go_upto_region 7 with fail
      obtain ⟨wb, hwb⟩ : ∃ x, wa.setCell ⟨gh, 0, none⟩ (.int .u32 (bits .xor .u32 r0 16842784)) = x := ⟨_, rfl⟩
      rw [hwb] at OB LB ⊢
      clear hwb v0 fz
      go_wp2_with fail
      go_loopw [3, 5] (fun v i W => ∃ (j : Nat), j ≤ lastF l + 1 ∧ i = .int .i64 ((64 * j : Nat) : Int) ∧ W.ownsRow g2 81 1 v 8 (u32s (HR l j)) ∧ Below g2 w1 W) (fun _ i _ => 64 * (lastF l + 1) - (intOf i).toNat)
      case atStart => exact ⟨0, by omega, rfl, by rw [HR_zero]; exact OB.out, LB.out⟩
      case round =>
        obtain ⟨j, hj, rfl, ho, hbel⟩ := hrel
        obtain ⟨gx, cx, rfl, hgx, hgx2⟩ := ho.form (by omega)
        have O := Lib.hid ho
        have L := Lib.hid hbel
        have hlast := Lib.hid (lastF_at l j hj)
        have hll := Lib.hid (last_lt l j)
        have hLL : lastF l = (l.length - 1) / 64 := rfl
        have HJ := Lib.hid hj
        obtain ⟨a, ha⟩ : ∃ x, 64 * j = x := ⟨_, rfl⟩
        rw [ha]
        have HA := Lib.hid ha
        have hab : a ≤ 2000000000 := by omega
        clear ho hbel OB LB
        by_cases hjq : j ≤ lastF l
        · have hal : a ≤ l.length := by rw [← ha]; exact hll.out hjq
          have hsz := L.out.size
          rw [HG2.out] at hsz
          have hmk' := hmk wr
          have BF := Lib.hid (Bk.new wr 5 (bts zero64).toArray)
          have O2 := Lib.hid (O.out.alloc (.cells (bts zero64).toArray 5))
          have L2 : Hid (Below g2 w1 (wr.alloc (.cells (bts zero64).toArray 5))) := Lib.hid (L.out.alloc hsz _)
          obtain ⟨gf, hgf⟩ : ∃ x, wr.heap.size = x := ⟨_, rfl⟩
          obtain ⟨w2, hw2⟩ : ∃ x, wr.alloc (.cells (bts zero64).toArray 5) = x := ⟨_, rfl⟩
          rw [hgf] at BF hsz hgx2
          rw [hw2] at BF O2 L2
          rw [hgf, hw2] at hmk'
          clear hmk hgf hw2 O L
          by_cases hl0 : l.length = 0
          · have HNIL : Hid (l = []) := Lib.hid (List.eq_nil_of_length_eq_zero hl0)
            have hj0 : Hid (j = 0) := Lib.hid (by omega)
            have ha0 : Hid (a = 0) := Lib.hid (by omega)
            have e1 : ((a : Int) == 0) = true := by simp; omega
            have e3 : decide ((l.length : Int) ≤ (a : Int) + 64) = true := by simp; omega
            have e4 : decide (l.length ≤ a + 64) = true := by simp; omega
            have hai : (a : Int) ≤ (l.length : Int) := by omega
            have hlc' : (l.length : Int) ≤ (c : Int) := by omega
            have hcp : ∀ (A' : Option Addr) (W : World), (Builtin.copy_ #[59, 59] 3 #[.slice (some ⟨gf, 0, none⟩) 64 64, .slice A' (l.length - a) (c - a)]).run Tryd.prog W = .ok (goInt 0) W := fun A' W =>
              run_copy_none W _ _ _ _ _ _ _ _ _ _ Tryd.underlying59 hi_u8sz (by rw [hl0, ha0.out]; decide)
            have hp64 := padB_len []
            have SH := Lib.hid (own_sl_at O2.out)
            have SF : Hid (Sl w2 w2.heap.size 1 (some ⟨gf, 0, none⟩) 64 (bts (padB []))) := Lib.hid ⟨by rw [bts_len, hp64], fun _ => ⟨gf, 0, rfl, BF.out.lt, fun i u hu => by rw [Nat.zero_add, BF.out.cell, List.getElem?_toArray]; exact hu⟩⟩
            have HST : Hid (compress (HR l j) (padB []) (l.length : Int) true = HR l (j + 1)) := Lib.hid (by
              have hst := HR_step l j hjq l.length (by rw [if_pos (by omega)])
              rw [decide_eq_true rfl, HNIL.out, hj0.out] at hst
              rw [HNIL.out, hj0.out]
              exact hst)
            have hac : a ≤ c := by omega
            clear hLL ha hj hl0
            cases A
            all_goals go_wp2_with fail
            all_goals
              with_reducible refine (rblock_any (HR l j) (padB []) l.length true (some ⟨gx, 0, none⟩) (some ⟨gf, 0, none⟩) cx 64 w2 (HR_len l j) hp64 (by omega) (by omega) SH.out SF.out).mono ?_
              rintro e_ w4 ⟨v4, rfl, ho4, hb4⟩
              rw [HST.out] at ho4
              have hsz3 : g2 ≤ w2.heap.size := by have := L2.out.size; have := HG2.out; omega
              have O4 := Lib.hid (own_mono ho4 hsz3)
              have L4 : Hid (Below g2 w1 w4) := Lib.hid (L2.out.trans (hb4.mono hsz3))
              clear ho4 hb4 SH SF O2 L2 BF
              go_wp2_with fail
              try rw [← h]
              go_roundw
              case rel => exact ⟨j + 1, by have := HJ.out; omega, by have := ha0.out; have := hj0.out; congr 1; omega, O4.out, L4.out⟩
              case measure => have := ha0.out; simp [intOf]; omega
          have key : ∃ x : Nat, x = 0 := ⟨_, rfl⟩
          have hge1 : decide (l.length ≤ a + 64) = decide (l.length ≤ a + 64) := rfl
          by_cases ha0 : j = 0
          case' pos =>
            have e1 : ((a : Int) == 0) = true := by simp; omega
            clear ha hj hLL
            go_upto_region 12 with fail
          case' neg =>
            have e1 : ((a : Int) == 0) = false := by simp; omega
            have e2 : decide (a < l.length) = true := by
              have := hlast.out.2 hjq
              simp; omega
            clear ha hj hLL
            go_upto_region 12 with fail
          all_goals
            clear key e1 hmk'
            try clear e2
            obtain ⟨b, off, rfl, hbb, hbc⟩ := HSl.out.2 (by omega)
            have HC := Lib.hid hbc
            clear hbc
            have hal' : a < l.length := by
              have := hlast.out.2 hjq
              have := HA.out
              omega
            have hac : (a : Int) < (c : Int) := by omega
            by_cases hge : l.length ≤ a + 64
            · have e3 : decide ((l.length : Int) ≤ (a : Int) + 64) = true := by simp; omega
              have e4 : decide (l.length ≤ a + 64) = true := by simp; omega
              have hai : (a : Int) ≤ (l.length : Int) := by omega
              have hlc' : (l.length : Int) ≤ (c : Int) := by omega
              go_upto_region 14 with fail
              have hae : a ≤ l.length := by omega
              have hSl : ((l.drop a).take (l.length - a)).length = l.length - a := by rw [List.length_take, List.length_drop]; omega
              obtain ⟨S, hS⟩ : ∃ S, (l.drop a).take (l.length - a) = S := ⟨_, rfl⟩
              have hsrc : ∀ i u, (bts S)[i]? = some u → w2.cell? ((⟨b, off + a, none⟩ : Addr).add i) = some u := fun i u hu => by
                have hi_ : i < l.length - a := by have := (List.getElem?_eq_some_iff.1 hu).1; rw [bts_len, ← hS, hSl] at this; exact this
                have e_ : (⟨b, off + a, none⟩ : Addr).add i = ⟨b, off + (a + i), none⟩ := by unfold Addr.add; split <;> simp_all [Nat.add_assoc]
                rw [e_, L2.out.cell (p := ⟨b, off + (a + i), none⟩) (show b < g2 by omega), L1.out.cell (p := ⟨b, off + (a + i), none⟩) hbb]
                refine HC.out _ _ ?_
                rw [← hu, ← hS]
                simp only [bts, List.getElem?_map, List.getElem?_take, List.getElem?_drop]
                rw [if_pos hi_]
              have HSRC := Lib.hid hsrc
              rw [hS] at hSl
              have hS64 : S.length ≤ 64 := by omega
              have hn_ : (bts S).length = Nat.min (l.length - a) 64 := by rw [bts_len, hSl]; simp only [Nat.min_def]; split <;> omega
              have HSL := Lib.hid hSl
              have HSE := Lib.hid hS
              have HSN := Lib.hid hn_
              clear hsrc hSl hS hn_
              go_upto_region 15 with (refine wpList_copy_bk (w := w2) (by rfl) _ _ 59 59 (by rfl) 5 Tryd.underlying59 hi_u8sz gf 0 64 64 ⟨b, off + a, none⟩ (l.length - a) (c - a) (by rfl) (by rfl) (bts zero64) 5 BF.out (bts S) (by exact HSN.out) HSRC.out (by rw [bts_len, bts_len]; exact (show 0 + S.length ≤ 64 by omega)) bts_one ?_; intro w3 hb_ hm_ hz_; rw [pad_put _ hS64] at hb_; have B3 := Lib.hid hb_; have M3 := Lib.hid hm_; clear hb_ hm_ hz_)
              have O3 := Lib.hid (own_mv O2.out M3.out (by simp [Value.ownBlock]; omega))
              have L3 : Hid (Below g2 w1 w3) := Lib.hid (L2.out.trans (M3.out.to_below (by have := L2.out.size; have := HG2.out; omega) (fun k _ e => by omega)))
              have SH := Lib.hid (own_sl_at O3.out)
              have hp64 := padB_len S
              have SF : Hid (Sl w3 w3.heap.size 1 (some ⟨gf, 0, none⟩) 64 (bts (padB S))) := Lib.hid ⟨by rw [bts_len, hp64], fun _ => ⟨gf, 0, rfl, B3.out.lt, fun i u hu => by rw [Nat.zero_add, B3.out.cell, List.getElem?_toArray]; exact hu⟩⟩
              have HST : Hid (compress (HR l j) (padB S) (l.length : Int) true = HR l (j + 1)) := Lib.hid (by
                have hst := HR_step l j hjq l.length (by rw [HA.out, if_pos hge])
                rw [HA.out, HSE.out] at hst
                rw [decide_eq_true rfl] at hst
                exact hst)
              go_wp2_with fail
              with_reducible refine (rblock_any (HR l j) (padB S) l.length true (some ⟨gx, 0, none⟩) (some ⟨gf, 0, none⟩) cx 64 w3 (HR_len l j) hp64 (by omega) (by omega) SH.out SF.out).mono ?_
              rintro e_ w4 ⟨v4, rfl, ho4, hb4⟩
              rw [HST.out] at ho4
              have hsz3 : g2 ≤ w3.heap.size := by have := L3.out.size; have := HG2.out; omega
              have O4 := Lib.hid (own_mono ho4 hsz3)
              have L4 : Hid (Below g2 w1 w4) := Lib.hid (L3.out.trans (hb4.mono hsz3))
              clear ho4 hb4 O3 L3 SH SF B3 M3 O2 L2 BF
              go_wp2_with fail
              go_roundw
              case rel => exact ⟨j + 1, by omega, by have := HA.out; congr 1; omega, O4.out, L4.out⟩
              case measure => have := HA.out; simp [intOf]; omega
            · have hlt_ : a + 64 < l.length := by omega
              obtain ⟨e, he⟩ : ∃ e, a + 64 = e := ⟨_, rfl⟩
              have hm : (a : Int) + 64 = (e : Int) := by omega
              have HE := Lib.hid he
              have e3 : decide ((l.length : Int) ≤ (e : Int)) = false := by simp; omega
              have e4 : decide (l.length ≤ e) = false := by simp; omega
              have e5 : (decide (e = l.length)) = false := by simp; omega
              have e6 : ((e : Int) == (l.length : Int)) = false := by simp; omega
              have hai : (a : Int) ≤ (e : Int) := by omega
              have hec : (e : Int) ≤ (c : Int) := by omega
              have hlc' : (l.length : Int) ≤ (c : Int) := by omega
              rw [hm]
              clear he
              go_upto_region 14 with fail
              have hae : a ≤ e := by omega
              have hSl : ((l.drop a).take (e - a)).length = e - a := by rw [List.length_take, List.length_drop]; omega
              obtain ⟨S, hS⟩ : ∃ S, (l.drop a).take (e - a) = S := ⟨_, rfl⟩
              have hsrc : ∀ i u, (bts S)[i]? = some u → w2.cell? ((⟨b, off + a, none⟩ : Addr).add i) = some u := fun i u hu => by
                have hi_ : i < e - a := by have := (List.getElem?_eq_some_iff.1 hu).1; rw [bts_len, ← hS, hSl] at this; exact this
                have e_ : (⟨b, off + a, none⟩ : Addr).add i = ⟨b, off + (a + i), none⟩ := by unfold Addr.add; split <;> simp_all [Nat.add_assoc]
                rw [e_, L2.out.cell (p := ⟨b, off + (a + i), none⟩) (show b < g2 by omega), L1.out.cell (p := ⟨b, off + (a + i), none⟩) hbb]
                refine HC.out _ _ ?_
                rw [← hu, ← hS]
                simp only [bts, List.getElem?_map, List.getElem?_take, List.getElem?_drop]
                rw [if_pos hi_]
              have HSRC := Lib.hid hsrc
              rw [hS] at hSl
              have hS64 : S.length ≤ 64 := by omega
              have hn_ : (bts S).length = Nat.min (e - a) 64 := by rw [bts_len, hSl]; simp only [Nat.min_def]; split <;> omega
              have HSL := Lib.hid hSl
              have HSE := Lib.hid hS
              have HSN := Lib.hid hn_
              clear hsrc hSl hS hn_
              go_upto_region 15 with (refine wpList_copy_bk (w := w2) (by rfl) _ _ 59 59 (by rfl) 5 Tryd.underlying59 hi_u8sz gf 0 64 64 ⟨b, off + a, none⟩ (e - a) (c - a) (by rfl) (by rfl) (bts zero64) 5 BF.out (bts S) (by exact HSN.out) HSRC.out (by rw [bts_len, bts_len]; exact (show 0 + S.length ≤ 64 by omega)) bts_one ?_; intro w3 hb_ hm_ hz_; rw [pad_put _ hS64] at hb_; have B3 := Lib.hid hb_; have M3 := Lib.hid hm_; clear hb_ hm_ hz_)
              have O3 := Lib.hid (own_mv O2.out M3.out (by simp [Value.ownBlock]; omega))
              have L3 : Hid (Below g2 w1 w3) := Lib.hid (L2.out.trans (M3.out.to_below (by have := L2.out.size; have := HG2.out; omega) (fun k _ e => by omega)))
              have SH := Lib.hid (own_sl_at O3.out)
              have hp64 := padB_len S
              have SF : Hid (Sl w3 w3.heap.size 1 (some ⟨gf, 0, none⟩) 64 (bts (padB S))) := Lib.hid ⟨by rw [bts_len, hp64], fun _ => ⟨gf, 0, rfl, B3.out.lt, fun i u hu => by rw [Nat.zero_add, B3.out.cell, List.getElem?_toArray]; exact hu⟩⟩
              have HST : Hid (compress (HR l j) (padB S) (e : Int) false = HR l (j + 1)) := Lib.hid (by
                have hst := HR_step l j hjq e (by have := HE.out; rw [HA.out, if_neg (by omega)]; omega)
                rw [HA.out, HSE.out] at hst
                rw [decide_eq_false (by omega)] at hst
                exact hst)
              go_wp2_with fail
              with_reducible refine (rblock_any (HR l j) (padB S) e false (some ⟨gx, 0, none⟩) (some ⟨gf, 0, none⟩) cx 64 w3 (HR_len l j) hp64 (by omega) (by omega) SH.out SF.out).mono ?_
              rintro e_ w4 ⟨v4, rfl, ho4, hb4⟩
              rw [HST.out] at ho4
              have hsz3 : g2 ≤ w3.heap.size := by have := L3.out.size; have := HG2.out; omega
              have O4 := Lib.hid (own_mono ho4 hsz3)
              have L4 : Hid (Below g2 w1 w4) := Lib.hid (L3.out.trans (hb4.mono hsz3))
              clear ho4 hb4 O3 L3 SH SF B3 M3 O2 L2 BF
              go_wp2_with fail
              go_roundw
              case rel => exact ⟨j + 1, by omega, by have := HA.out; congr 1; omega, O4.out, L4.out⟩
              case measure => have := HA.out; simp [intOf]; omega
        · have hjl : j = lastF l + 1 := by have := HJ.out; omega
          have ho := O.out
          rw [hjl, HR_end] at ho
          obtain ⟨Hh, hHh⟩ : ∃ x, HL l = x := ⟨_, rfl⟩
          have hHl : Hh.length = 8 := by rw [← hHh, HL, compress_len, HF_len]
          have HHh : Hid (digF l = (List.range 32).map (outF Hh)) := Lib.hid (by rw [digF_blocks l (by omega), hHh])
          rw [hHh] at ho
          have HO := Lib.hid ho
          have e1 : ((a : Int) == 0) = false := by simp; omega
          have e2 : decide (a < l.length) = false := by
            have := (not_congr hlast.out).2 hjq
            simp; omega
          clear ho hHh hjl hLL ha O
          have O6 : Hid (Bk wr go 26 (bts hash0).toArray) := Lib.hid (O1.out.below L.out (by omega))
          have hszr := L.out.size
          rw [HG2.out] at hszr
          obtain ⟨gq, hgq⟩ : ∃ x, wr.heap.size = x := ⟨_, rfl⟩
          have F0 := Bk.new wr 26 (bts hash0).toArray
          have HO7 := Lib.hid (HO.out.alloc (.cells (bts hash0).toArray 26))
          have O7 := Lib.hid (O6.out.alloc (.cells (bts hash0).toArray 26))
          have L7 : Hid (Below g2 w1 (wr.alloc (.cells (bts hash0).toArray 26))) := Lib.hid (L.out.alloc hszr _)
          rw [hgq] at F0 hgx2 hszr
          have HF0 := Lib.hid F0
          clear F0 O6 L HO
          go_upto_region 17 with fail
          obtain ⟨w7, hw7⟩ : ∃ x, wr.alloc (.cells (bts hash0).toArray 26) = x := ⟨_, rfl⟩
          rw [hw7] at HF0 HO7 O7 L7 ⊢
          try rw [hgq]
          clear hw7 hgq hzh e1 e2
          go_wp2_with fail
          go_loopw [9] (fun i W => ∃ (k : Nat) (m : List UInt8), k ≤ 32 ∧ i = .int .i64 k ∧ m.length = 32 ∧ (∀ j, j < k → m[j]? = some (outF Hh j)) ∧ Bk W gq 26 (bts m).toArray ∧ W.ownsRow g2 81 1 (.slice (some ⟨gx, 0, none⟩) 8 cx) 8 (u32s Hh) ∧ Bk W go 26 (bts hash0).toArray ∧ Below go w1 W) (fun i _ => 32 - (intOf i).toNat)
          case atStart => exact ⟨0, hash0, by omega, rfl, hash0_len, fun j hj => by omega, HF0.out, HO7.out, O7.out, L7.out.mono (by omega)⟩
          case round =>
            obtain ⟨k, m, hk, rfl, hml, hpre, hbh, hbt, hbo, hbel⟩ := hrel
            have HPRE := Lib.hid hpre
            have HBh := Lib.hid hbh
            have HBt := Lib.hid hbt
            have HBo := Lib.hid hbo
            have HBEL := Lib.hid hbel
            clear hpre hbh hbt hbo hbel HF0 HO7 O7 L7
            by_cases hlt : k < 32
            · have hlt' : (k : Int) < 32 := by omega
              have hq8 : k / 4 < 8 := by omega
              have hx : wr.cell? ⟨gx, k / 4, none⟩ = some (.int .u32 (Hh.getD (k / 4) 0)) := by rw [HBt.out.cellAt (k / 4) (by omega), u32s_get hHl hq8]
              have cb : ∃ v, wr.cell? ⟨gq, k, none⟩ = some v := ⟨_, by rw [HBh.out.cell, List.getElem?_toArray]; exact List.getElem?_eq_getElem (by rw [bts_len, hml]; exact hlt)⟩
              obtain ⟨vb, hvb⟩ := cb
              have fz := HBh.out.frozen k
              obtain ⟨x, hxx⟩ : ∃ x, Hh.getD (k / 4) 0 = x := ⟨_, rfl⟩
              rw [hxx] at hx
              obtain ⟨q, hq⟩ : ∃ q, k / 4 = q := ⟨_, rfl⟩
              obtain ⟨r, hr⟩ : ∃ r, k % 4 = r := ⟨_, rfl⟩
              rw [hq] at hx hq8
              have hr4 : r < 4 := by omega
              have hlq : (q : Int) < 8 := by omega
              have hqi : (k : Int) / 4 = (q : Int) := by omega
              have hri : (k : Int) % 4 = (r : Int) := by omega
              have HOUT : Hid (outF Hh k = UInt8.ofNat (x / 2 ^ (8 * r) % 256).toNat) := Lib.hid (by rw [outF, hxx, hr, Nat.mul_comm])
              clear hxx hq hr
              go_wp2_with fail
              go_roundw
              case rel =>
                have hm : Moves (fun g _ => g = gq) wr (wr.setCell ⟨gq, k, none⟩ (.int .u8 (x / 2 ^ (8 * r) % 256))) := Moves.setCell _ _ _ (fun _ _ => rfl)
                have hu := u8_of (x / 2 ^ (8 * r) % 256) (Int.emod_nonneg _ (by decide)) (Int.emod_lt_of_pos _ (by decide))
                refine ⟨k + 1, m.set k (outF Hh k), by omega, by go_num, by simp [hml], fun j hj => ?_, ?_, own_mv HBt.out hm (by simp [Value.ownBlock]; omega), hm.bk HBo.out (by omega), HBEL.out.setCell (by simp only; omega) _⟩
                · by_cases e : j = k
                  · subst e
                    rw [List.getElem?_set_self (by omega)]
                  · rw [List.getElem?_set_ne (by omega)]
                    exact HPRE.out j (by omega)
                · have := HBh.out.set_u8 k (outF Hh k)
                  rw [HOUT.out, hu] at this
                  rw [HOUT.out]
                  exact this
              case measure => simp [intOf]; omega
            · obtain rfl : k = 32 := by omega
              have hfin : m = digF l := by rw [HHh.out]; exact out_list hml HPRE.out
              subst hfin
              have hbl : (bts (digF l)).length = 32 := by rw [bts_len, digF_len]
              have h0l : (bts hash0).length = 32 := by rw [bts_len, hash0_len]
              have rO := HBh.out.all
              clear hlt
              go_wp2_with (first
                | (refine wpList_val (by rfl) (run_load_seg 26 _ (by with_reducible rfl) gq 0 (by rfl) _ rO 32 hbl _ Tryd.underlying26 (by rfl) hi_hash) ?_)
                | (refine wpList_puts (by rfl) 26 _ _ (by with_reducible rfl) go 0 (by rfl) (bts (digF l)) (by rfl) 26 (bts hash0) (by exact HBo.out) 32 hbl (by rw [h0l]; omega) hi_hash bts_all ?_; intro w9 hb_ hm_ hz_; rw [put_all (by rw [h0l, hbl])] at hb_; have HM9 := Lib.hid hm_; have HR9 := Lib.hid hb_; clear hb_ hm_ hz_))
              refine bodyPost_ret (results_cell_row rfl _ _ go 26 (bts (digF l)).toArray (0, 0) _ (by rfl) HR9.out Tryd.underlying26 rfl (by rw [hi_hash]; simp [hbl])) rfl ?_
              have := HG.out
              rw [this]
              exact ⟨rfl, (L1.out.trans HBEL.out).trans (HM9.out.to_below (by have := (L1.out.trans HBEL.out).size; omega) (fun k _ e => by omega))⟩
end Go.Proofs.YtdeikpifflkabaaDoor

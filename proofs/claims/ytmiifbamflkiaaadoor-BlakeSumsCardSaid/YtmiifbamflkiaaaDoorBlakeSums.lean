/- What this text proves: the contract of the law BlakeSums. The conditions are how the argument lies in memory, and that the package's table is as its text lays it. -/
import Derived.Test.YtmiifbamflkiaaaDoorRefBlakeS
import Derived.Test.YtmiifbamflkiaaaDoorSame02
namespace Go.Proofs.YtmiifbamflkiaaaDoor
open Go.RowKit
set_option linter.unusedVariables false
set_option linter.unusedSimpArgs false

attribute [local irreducible] digF
set_option maxRecDepth 100000 in
set_option maxHeartbeats 4000000 in
theorem sums_any (A : Option Addr) (l : List UInt8) (c : Nat) (w : World) (hr : Roots w) (h0 : 0 < w.heap.size) (hlc : l.length ≤ c) (hA : Sl w w.heap.size 1 A l.length (bts l)) :
    Calls Tryd.prog 3 #[.slice A l.length c] w fun e w' => e = .returned (.bool true) ∧ Below w.heap.size w w' := by
  have HR := Lib.hid hr
  have HA := Lib.hid hA
  clear hr hA
  have hzh := zero_hash
  by_cases hbig : 5000 < l.length
  · have e1 : decide ((5000 : Int) < (l.length : Int)) = true := decide_eq_true (by omega)
    go_enter Tryd.func3, Tryd.ntmps3
    go_wp2_with fail
    with_reducible refine (alive_any w HR.out h0).mono ?_
    rintro e w1 ⟨rfl, hb⟩
    go_wp2_with fail
    go_ret
    exact ⟨rfl, hb⟩
  have e1 : decide ((5000 : Int) < (l.length : Int)) = false := decide_eq_false (by omega)
  have b2 : l.length ≤ 5000 := by omega
  have HLC := Lib.hid hlc
  clear hlc
  go_enter Tryd.func3, Tryd.ntmps3
  obtain ⟨i0, hi, hz0, hz1, hz2⟩ := info_parts u8_info
  go_upto_region 3 with fail
  have O9 := Lib.hid (World.ownsRow_made (base := w.heap.size) (e := 5) (size := 1) w #[] 0 (Nat.le_refl _) (by unfold maxLen; omega) (by simp))
  have L9 : Hid (Below w.heap.size w (w.alloc (.cells #[] 5))) := Lib.hid (by (first | assumption | (repeat (first | exact Below.refl _ _ | assumption | apply Below.drew | apply below_drewN | (refine Below.setCell ?_ (by (try simp) <;> omega) _) | (refine Below.alloc ?_ (by (try simp) <;> omega) _)))))
  have hll : (l.length : Int) ≤ 5000 := by omega
  go_upto_region 4 with (first
    | (refine wpList_append_sl (w.alloc (.cells #[] 5)) (by rfl) _ _ 22 (by rfl) w.heap.size 5 i0 _ 1 1 Tryd.underlying22 hi hz0 hz1 hz2 rfl (by omega) (.slice (some ⟨w.heap.size, 0, none⟩) 0 0) 0 [] (by rfl) O9.out A l.length c (bts l) (by rfl) ((HA.out.below L9.out).more L9.out.size) bts_one (by unfold maxLen; omega) (by omega) (by simp) ?_
       intro v10 w10 ho_ hg_ hv_
       have O10 := Lib.hid ho_
       have L10 : Hid (Below w.heap.size w w10) := Lib.hid (L9.out.grown hg_ (by simp) (fun k hk => (own_cells O9.out hk).1))
       have C10 := Lib.hid (World.news_of_block (cs := #[.int .u8 77]) (t := 5) (fr := (0, 0)) (heap_alloc_new w10 _))
       have hsz10 := L10.out.size
       clear ho_ hg_ hv_)
    | (refine wpList_append_lies (w := w10.alloc (.cells #[.int .u8 77] 5)) (by rfl) _ _ 22 (by rfl) w.heap.size 5 i0 _ 1 1 Tryd.underlying22 hi hz0 hz1 hz2 rfl (by omega) v10 (0 + l.length) ([] ++ bts l) (by rfl) (O10.out.alloc _) ⟨w10.heap.size, 0, none⟩ 1 1 [.int .u8 77] (by rfl) (by rfl) (by exact C10.out) (by simp [Value.oneCell']) (by omega) (by unfold maxLen; omega) (by omega) (by simp; omega) _ (by rfl) ?_
       intro gg cap w11 hown2 hgrow hat hlt_
       have O11 := Lib.hid hown2
       have L11 : Hid (Below w.heap.size w w11) := Lib.hid ((L10.out.alloc hsz10 _).grown hgrow (by simp; omega) (fun k hk => (own_cells O10.out hk).1))
       have hcap : (l.length : Int) + 1 ≤ (cap : Int) := by have := hown2.2; rcases this with ⟨h, _⟩ | ⟨g', cap', cur, h, _, _, hc, _⟩ <;> simp at h <;> omega
       have hcap' : (l.length : Int) ≤ (cap : Int) := by omega
       clear hown2 hgrow hat hlt_))
  have ho11 := O11.out
  rw [Nat.zero_add, List.nil_append] at ho11
  have hsg : gg < w11.heap.size := (ho11.lt gg (by simp [Value.ownBlock])).2
  have hcells : ∀ i u, (bts l)[i]? = some u → w11.cell? ⟨gg, i, none⟩ = some u := fun i u hu => by
    have hlt : i < l.length := by have := (List.getElem?_eq_some_iff.1 hu).1; rwa [bts_len] at this
    rw [ho11.cellAt i (by omega), List.getElem?_append_left (by rw [bts_len]; exact hlt), hu]
  have h77 : w11.cell? ⟨gg, l.length, none⟩ = some (.int .u8 77) := by
    rw [ho11.cellAt l.length (by omega), List.getElem?_append_right (by rw [bts_len]; exact Nat.le_refl _), bts_len, Nat.sub_self]; rfl
  have HS := Lib.hid (show Sl w11 w11.heap.size 1 (some ⟨gg, 0, none⟩) l.length (bts l) from ⟨by rw [bts_len]; omega, fun _ => ⟨gg, 0, rfl, hsg, fun i u hu => by rw [Nat.zero_add]; exact hcells i u hu⟩⟩)
  have H77 := Lib.hid h77
  have HSG := Lib.hid hsg
  have HLM : Hid (l.length ≤ maxLen) := Lib.hid (by unfold maxLen; omega)
  have hsz11 := L11.out.size
  clear ho11 hcells h77 hsg O9 L9 O10 L10 C10 hsz10 O11
  go_wp2_with fail
  with_reducible refine (digest_any (some ⟨gg, 0, none⟩) l cap w11 (HR.out.below L11.out h0) HLM.out HS.out (by omega)).mono ?_
  rintro e w12 ⟨rfl, hb12⟩
  have S12 := Lib.hid ((HS.out.below hb12).more hb12.size)
  have L12 : Hid (Below w.heap.size w w12) := Lib.hid (L11.out.trans (hb12.mono hsz11))
  have C12 : Hid (w12.cell? ⟨gg, l.length, none⟩ = some (.int .u8 77)) := Lib.hid ((hb12.cell (p := ⟨gg, l.length, none⟩) HSG.out).trans H77.out)
  have hg12 : gg < w12.heap.size := Nat.lt_of_lt_of_le HSG.out hb12.size
  have hsz12 := L12.out.size
  clear hb12 HS H77 HSG L11 hsz11
  have hdl := digF_len l
  obtain ⟨D, hD⟩ : ∃ D, digF l = D := ⟨_, rfl⟩
  rw [hD] at hdl ⊢
  have HD := Lib.hid hD
  clear hD
  have X6 := Lib.hid (Bk.new w12 25 (bts hash0).toArray)
  have Y6 : Hid (Below w12.heap.size w12 (w12.alloc (.cells (bts hash0).toArray 25))) := Lib.hid (by (first | assumption | (repeat (first | exact Below.refl _ _ | assumption | apply Below.drew | apply below_drewN | (refine Below.setCell ?_ (by (try simp) <;> omega) _) | (refine Below.alloc ?_ (by (try simp) <;> omega) _)))))
  have hbl : (bts D).length = 32 := by rw [bts_len, hdl]
  have h0l : (bts hash0).length = 32 := by rw [bts_len, hash0_len]
  go_upto_region 5 with (refine wpList_puts (by rfl) 25 _ _ (by with_reducible rfl) w12.heap.size 0 (by rfl) (bts D) (by rfl) 25 (bts hash0) (by exact X6.out) 32 hbl (by rw [h0l]; omega) hi_hash bts_all ?_; intro w7 hb_ hm_ hz_; rw [put_hash0 _ hdl] at hb_; have HM7 := Lib.hid hm_; have HX7 := Lib.hid hb_; clear hb_ hm_ hz_)
  obtain ⟨gx, hgx⟩ : ∃ x, w12.heap.size = x := ⟨_, rfl⟩
  have B7 : Hid (Below w12.heap.size w12 w7) := Lib.hid (Y6.out.trans (HM7.out.to_below Y6.out.size (fun k _ e => by omega)))
  have S7 := Lib.hid ((S12.out.below B7.out).more B7.out.size)
  have C7 : Hid (w7.cell? ⟨gg, l.length, none⟩ = some (.int .u8 77)) := Lib.hid ((B7.out.cell (p := ⟨gg, l.length, none⟩) hg12).trans C12.out)
  have L7 : Hid (Below w.heap.size w w7) := Lib.hid (L12.out.trans (B7.out.mono hsz12))
  have hg7 : gg < w7.heap.size := Nat.lt_of_lt_of_le hg12 B7.out.size
  rw [hgx] at HX7 ⊢
  clear X6 Y6 HM7 B7 S12 C12 L12 hgx hg12 hsz12
  go_wp2_with fail
  with_reducible refine (same02_any (some ⟨gg, 0, none⟩) A l l cap c w7 S7.out ((HA.out.below L7.out).more L7.out.size)).mono ?_
  rintro e w8 ⟨rfl, hb8⟩
  rw [decide_eq_true rfl]
  have X8 := Lib.hid (HX7.out.below hb8 HX7.out.lt)
  have C8 : Hid (w8.cell? ⟨gg, l.length, none⟩ = some (.int .u8 77)) := Lib.hid ((hb8.cell (p := ⟨gg, l.length, none⟩) hg7).trans C7.out)
  have L8 : Hid (Below w.heap.size w w8) := Lib.hid (L7.out.trans (hb8.mono L7.out.size))
  have hg8 : gg < w8.heap.size := Nat.lt_of_lt_of_le hg7 hb8.size
  clear hb8 HX7 C7 L7 hg7 S7
  go_upto_region 6 with fail
  have Q1 := Lib.hid fun (x : BW w8) => alive_any x.val (HR.out.below (L8.out.trans (x.below.mono L8.out.size)) h0) (Nat.lt_of_lt_of_le h0 (L8.out.trans (x.below.mono L8.out.size)).size)
  have Q2 : Hid (∀ x : BW w8, Calls Tryd.prog 11 #[.slice A l.length c] x.val fun e w' => e = .returned (.agg (bts D).toArray) ∧ Below x.val.heap.size x.val w') := Lib.hid (fun x => by
    have h := rsum_any A l c x.val (by omega) HLC.out ((HA.out.below (L8.out.trans (x.below.mono L8.out.size))).more (L8.out.trans (x.below.mono L8.out.size)).size)
    rw [HD.out] at h
    exact h)
  have hcc : ∀ x : BW w8, x.val.cell? ⟨gg, l.length, none⟩ = some (.int .u8 77) := fun x => x.cell C8.out hg8
  obtain ⟨n1, hn1⟩ : ∃ x, l.length + 1 = x := ⟨_, rfl⟩
  have hm1 : (l.length : Int) + 1 = (n1 : Int) := by omega
  have hw1 : IntKind.i64.wrap (n1 : Int) = (n1 : Int) := IntWalk.i64_in _ (by omega)
  rw [hm1] at hcap
  have hln : (l.length : Int) < (n1 : Int) := by omega
  clear hn1
  refine wp_region_bw (by kernel_rfl) (by kernel_rfl) ?_
  go_big_quiet_step (exact quiet_bw _ (Q1.out _))
  go_big_quiet_step (fail)
  go_big_quiet_want; (with_reducible apply quiet_val)
  case hr => exact fun W hW => run_ldh _ (by rfl) gx 0 (by rfl) _ hdl (bw_range hW X8.out.all X8.out.lt)
  go_simp
  go_big_quiet_on
  go_big_quiet_step (fail)
  go_big_quiet_step (exact quiet_bw _ (Q2.out _))
  go_big_quiet_want; (with_reducible apply quiet_val)
  case hr => exact fun W hW => run_same _ _ _ (by rfl) _ (by rfl) (by rfl) hdl
  go_simp
  go_big_quiet_on
  go_big_quiet_step (fail)
  go_big_quiet_step (fail)
  go_big_quiet_step (fail)
  go_big_quiet_step (fail)
  go_big_quiet_step (fail)
  go_big_quiet_step (fail)
  go_big_quiet_step (fail)
  go_big_quiet_step (fail)
  go_big_quiet_step (fail)
  go_big_quiet_step (fail)
  go_big_quiet_step (fail)
  go_big_quiet_step (fail)
  go_big_quiet_step (fail)
  go_big_quiet_step (fail)
  go_big_quiet_step (fail)
  go_big_quiet_step (fail)
  go_big_quiet_step (fail)
  refine wpQuiet_nil ?_; intro _ hwq; obtain ⟨⟨wq, hbq⟩, hwq'⟩ := hwq; subst hwq'
  go_wp2_with fail
  go_ret
  exact ⟨rfl, L8.out.trans (hbq.mono L8.out.size)⟩
theorem sums_walk (A : Option Addr) (l : List UInt8) (c : Nat) (hlc : l.length ≤ c) (_ : c ≤ maxLen) {w : World} (hA : Sl w w.heap.size 1 A l.length (bts l)) (_ : World) (hr : Roots w ∧ 0 < w.heap.size) :
    Calls Tryd.prog 3 #[.slice A l.length c] w fun e w' => e = .returned (.bool true) ∧ Below w.heap.size w w' := sums_any A l c w hr.1 hr.2 hlc hA
end Go.Proofs.YtmiifbamflkiaaaDoor

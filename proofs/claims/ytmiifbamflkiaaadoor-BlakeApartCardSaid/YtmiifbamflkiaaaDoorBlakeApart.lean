/- What this text proves: the contract of the law BlakeApart. The conditions are how the arguments lie in memory, and that the package's table is as its text lays it. -/
import Derived.Test.YtmiifbamflkiaaaDoorBlakeLaw
namespace Go.Proofs.YtmiifbamflkiaaaDoor
open Go.RowKit
set_option linter.unusedVariables false
set_option linter.unusedSimpArgs false

attribute [local irreducible] digF
set_option maxRecDepth 100000 in
set_option maxHeartbeats 1000000 in
theorem apart_any (A A' : Option Addr) (l m : List UInt8) (c c' : Nat) (w : World) (hr : Roots w) (h0 : 0 < w.heap.size) (hA : Sl w w.heap.size 1 A l.length (bts l)) (hA' : Sl w w.heap.size 1 A' m.length (bts m)) :
    Calls Tryd.prog 5 #[.slice A l.length c, .slice A' m.length c'] w fun e w' => e = .returned (.bool true) ∧ Below w.heap.size w w' := by
  have HR := Lib.hid hr
  have HA := Lib.hid hA
  have HA' := Lib.hid hA'
  clear hr hA hA'
  have hzh := zero_hash
  by_cases hbig : 5000 < l.length
  · have e1 : decide ((5000 : Int) < (l.length : Int)) = true := decide_eq_true (by omega)
    go_enter Tryd.func5, Tryd.ntmps5
    go_wp2_with fail
    with_reducible refine (alive_any w HR.out h0).mono ?_
    rintro e w1 ⟨rfl, hb⟩
    go_wp2_with fail
    go_ret
    exact ⟨rfl, hb⟩
  have e1 : decide ((5000 : Int) < (l.length : Int)) = false := decide_eq_false (by omega)
  by_cases hbig' : 5000 < m.length
  · have e2 : decide ((5000 : Int) < (m.length : Int)) = true := decide_eq_true (by omega)
    go_enter Tryd.func5, Tryd.ntmps5
    go_wp2_with fail
    with_reducible refine (alive_any w HR.out h0).mono ?_
    rintro e w1 ⟨rfl, hb⟩
    go_wp2_with fail
    go_ret
    exact ⟨rfl, hb⟩
  have e2 : decide ((5000 : Int) < (m.length : Int)) = false := decide_eq_false (by omega)
  have HL : Hid (l.length ≤ maxLen ∧ m.length ≤ maxLen ∧ (m ++ l).length ≤ maxLen) := Lib.hid (by unfold maxLen; simp; omega)
  go_enter Tryd.func5, Tryd.ntmps5
  go_wp2_with fail
  with_reducible refine (dg_new HR.out h0 (Below.refl _ _)).mono ?_
  rintro e w1 ⟨gs, rfl, hs0, hs1, hb1⟩
  have S1 := Lib.hid hs1
  go_wp2_with fail
  with_reducible refine (dg_new HR.out h0 hs1.b).mono ?_
  rintro e w2 ⟨gt, rfl, ht0, ht1, hb2⟩
  have hne : gs ≠ gt := by have := hs1.s.lt; omega
  have S2 := Lib.hid (hs1.below hb2)
  have T2 := Lib.hid ht1
  clear hs1 ht1 hb1 hb2 S1
  go_wp2_with fail
  with_reducible refine (alive_any w2 (HR.out.below S2.out.b h0) (Nat.lt_of_lt_of_le h0 S2.out.b.size)).mono ?_
  rintro e w3 ⟨rfl, hb3⟩
  have S3 := Lib.hid (S2.out.below hb3)
  have T3 := Lib.hid (T2.out.below hb3)
  clear hb3 S2 T2
  go_wp2_with fail
  with_reducible refine (dg_write HR.out h0 S3.out A c HL.out.1 (Src.of_sl (HA.out.below S3.out.b) S3.out.ge)).mono ?_
  rintro e w4 ⟨rfl, hs4, hm4⟩
  have S4 := Lib.hid hs4
  have T4 := Lib.hid (T3.out.moves hm4 (Ne.symm hne) S3.out.ge)
  clear hs4 hm4 S3 T3
  go_wp2_with fail
  with_reducible refine (dg_write HR.out h0 T4.out A' c' HL.out.2.1 (Src.of_sl (HA'.out.below T4.out.b) T4.out.ge)).mono ?_
  rintro e w5 ⟨rfl, ht5, hm5⟩
  have S5 := Lib.hid (S4.out.moves hm5 hne T4.out.ge)
  have T5 := Lib.hid ht5
  clear ht5 hm5 S4 T4
  go_wp2_with fail
  with_reducible refine (dg_sum HR.out h0 S5.out).mono ?_
  rintro e w6 ⟨rfl, hb6⟩
  simp only [List.nil_append]
  have S6 := Lib.hid (S5.out.below hb6)
  have T6 := Lib.hid (T5.out.below hb6)
  clear hb6 S5 T5
  have X6 := Lib.hid (Bk.new w6 25 (bts hash0).toArray)
  have Y6 : Hid (Below w6.heap.size w6 (w6.alloc (.cells (bts hash0).toArray 25))) := Lib.hid (by (first | assumption | (repeat (first | exact Below.refl _ _ | assumption | apply Below.drew | apply below_drewN | (refine Below.setCell ?_ (by (try simp) <;> omega) _) | (refine Below.alloc ?_ (by (try simp) <;> omega) _)))))
  have hbl : (bts (digF l)).length = 32 := by rw [bts_len, digF_len]
  have h0l : (bts hash0).length = 32 := by rw [bts_len, hash0_len]
  go_wp2_with (refine wpList_puts (by rfl) 25 _ _ (by with_reducible rfl) w6.heap.size 0 (by rfl) (bts (digF l)) (by rfl) 25 (bts hash0) (by exact X6.out) 32 hbl (by rw [h0l]; omega) hi_hash bts_all ?_; intro w7 hb_ hm_ hz_; rw [put_hash0 _ (digF_len l)] at hb_; have HM7 := Lib.hid hm_; have HX7 := Lib.hid hb_; clear hb_ hm_ hz_)
  have hx0 : w.heap.size ≤ w6.heap.size := S6.out.b.size
  have hsl6 := S6.out.s.lt
  have htl6 := T6.out.s.lt
  have S7 := Lib.hid ((S6.out.below Y6.out).moves HM7.out (by omega) hx0)
  have T7 := Lib.hid ((T6.out.below Y6.out).moves HM7.out (by omega) hx0)
  obtain ⟨gx, hgx⟩ : ∃ x, w6.heap.size = x := ⟨_, rfl⟩
  rw [hgx] at HX7 hx0 hsl6 htl6 ⊢
  clear X6 Y6 HM7 S6 T6
  with_reducible refine (dg_sum HR.out h0 S7.out).mono ?_
  rintro e w8 ⟨rfl, hb8⟩
  have S8 := Lib.hid (S7.out.below hb8)
  have T8 := Lib.hid (T7.out.below hb8)
  have X8 := Lib.hid (HX7.out.below hb8 HX7.out.lt)
  clear hb8 S7 T7 HX7
  go_wp2_with fail
  with_reducible refine (dg_write HR.out h0 T8.out A c HL.out.1 (Src.of_sl (HA.out.below T8.out.b) T8.out.ge)).mono ?_
  rintro e w9 ⟨rfl, ht9, hm9⟩
  have S9 := Lib.hid (S8.out.moves hm9 hne T8.out.ge)
  have T9 := Lib.hid ht9
  have X9 := Lib.hid (hm9.bk X8.out (by omega))
  clear ht9 hm9 S8 T8 X8
  obtain ⟨i0, hi, hz0, hz1, hz2⟩ := info_parts u8_info
  have O9 := Lib.hid (World.ownsRow_made (base := w9.heap.size) (e := 5) (size := 1) w9 #[] 0 (Nat.le_refl _) (by unfold maxLen; omega) (by simp))
  have L9 : Hid (Below w9.heap.size w9 (w9.alloc (.cells #[] 5))) := Lib.hid (by (first | assumption | (repeat (first | exact Below.refl _ _ | assumption | apply Below.drew | apply below_drewN | (refine Below.setCell ?_ (by (try simp) <;> omega) _) | (refine Below.alloc ?_ (by (try simp) <;> omega) _)))))
  have LM := HL.out.2.1
  have LL := HL.out.2.2
  unfold maxLen at LM LL
  rw [List.length_append] at LL
  have b1 : m.length ≤ 5000 := by omega
  have b2 : l.length ≤ 5000 := by omega
  go_wp2_with (first
    | (refine wpList_append_sl (w9.alloc (.cells #[] 5)) (by rfl) _ _ 22 (by rfl) w9.heap.size 5 i0 _ 1 1 Tryd.underlying22 hi hz0 hz1 hz2 rfl (by omega) (.slice (some ⟨w9.heap.size, 0, none⟩) 0 0) 0 [] (by rfl) O9.out A' m.length c' (bts m) (by rfl) ((HA'.out.below (T9.out.b.trans (L9.out.mono T9.out.b.size))).more (Nat.le_trans T9.out.b.size L9.out.size)) bts_one (by unfold maxLen; omega) (by omega) (by simp) ?_
       intro v10 w10 ho_ hg_ hv_
       have O10 := Lib.hid ho_
       have L10 : Hid (Below w9.heap.size w9 w10) := Lib.hid (L9.out.grown hg_ (by simp) (fun k hk => (own_cells O9.out hk).1))
       clear ho_ hg_ hv_)
    | (refine wpList_append_sl w10 (by rfl) _ _ 22 (by rfl) w9.heap.size 5 i0 _ 1 1 Tryd.underlying22 hi hz0 hz1 hz2 rfl (by omega) v10 _ _ (by rfl) O10.out A l.length c (bts l) (by rfl) ((HA.out.below (T9.out.b.trans (L10.out.mono T9.out.b.size))).more (Nat.le_trans T9.out.b.size L10.out.size)) bts_one (by unfold maxLen; omega) (by omega) L10.out.size ?_
       intro v11 w11 ho_ hg_ hv_
       have O11 := Lib.hid ho_
       have L11 : Hid (Below w9.heap.size w9 w11) := Lib.hid (L10.out.grown hg_ L10.out.size (fun k hk => (own_cells O10.out hk).1))
       clear ho_ hg_ hv_))
  have S11 := Lib.hid (S9.out.below L11.out)
  have T11 := Lib.hid (T9.out.below L11.out)
  have X11 := Lib.hid (X9.out.below L11.out X9.out.lt)
  clear O9 L9 O10 L10 L11 S9 T9 X9
  obtain ⟨A11, c11, rfl, _, _, hs11⟩ := own_sl O11.out
  obtain ⟨ml, hml⟩ : ∃ x, m ++ l = x := ⟨_, rfl⟩
  have e11 : 0 + m.length + l.length = (m ++ l).length := by simp
  have e12 : [] ++ bts m ++ bts l = bts (m ++ l) := by simp [bts]
  rw [e11, e12] at hs11
  rw [e11, hml]
  rw [List.nil_append, hml] at T11
  rw [hml] at HL hs11
  have HM := Lib.hid hs11
  clear O11 hs11 e11 e12 hml
  with_reducible refine (write_nil A l.length c w11).mono ?_
  rintro e w12 ⟨rfl, hb12⟩
  go_wp2_with fail
  with_reducible refine (sum_nil w12).mono ?_
  rintro e w13 ⟨rfl, hb13⟩
  have hb := hb12.trans (hb13.mono hb12.size)
  have S13 := Lib.hid (S11.out.below hb)
  have T13 := Lib.hid (T11.out.below hb)
  have X13 := Lib.hid (X11.out.below hb X11.out.lt)
  have HM13 := Lib.hid ((HM.out.below hb).more hb.size)
  clear hb hb12 hb13 S11 T11 X11 HM
  go_wp2_with (first
    | (refine wpList_val (by rfl) (run_build_at 25 _ (by with_reducible rfl) (bts hash0) (by exact built_hash0)) ?_)
    | (refine wpList_val (by rfl) (run_same _ _ _ (by with_reducible rfl) hash0 (by rfl) (by rfl) hash0_len) ?_))
  have Q1 := Lib.hid fun (x : BW w13) => digest_any A l c x.val (HR.out.below (S13.out.below x.below).b h0) HL.out.1 ((HA.out.below (S13.out.below x.below).b).more (S13.out.below x.below).b.size) (Nat.lt_of_lt_of_le h0 (S13.out.below x.below).b.size)
  have Q2 := Lib.hid fun (x : BW w13) => dg_sum HR.out h0 (S13.out.below x.below)
  have Q3 := Lib.hid fun (x : BW w13) => dg_sum HR.out h0 (T13.out.below x.below)
  have Q4 := Lib.hid fun (x : BW w13) => digest_any A11 ml c11 x.val (HR.out.below (S13.out.below x.below).b h0) HL.out.2.2 (x.sl HM13.out (Nat.le_refl _)) (Nat.lt_of_lt_of_le h0 (S13.out.below x.below).b.size)
  have hlm := digF_len ml
  have hll := digF_len l
  refine wp_region_bw (by kernel_rfl) (by kernel_rfl) ?_
  go_big_quiet_want; (with_reducible apply quiet_val)
  case hr => exact fun W hW => run_ldh _ (by rfl) gx 0 (by rfl) _ hll (bw_range hW X13.out.all X13.out.lt)
  go_simp
  go_big_quiet_on
  go_big_quiet_step (fail)
  go_big_quiet_step (exact quiet_bw _ (Q1.out _))
  go_big_quiet_want; (with_reducible apply quiet_val)
  case hr => exact fun W hW => run_same _ _ _ (by rfl) _ (by rfl) (by rfl) hll
  go_simp
  go_big_quiet_on
  go_big_quiet_step (fail)
  go_big_quiet_step (fail)
  go_big_quiet_step (exact quiet_bw _ (Q2.out _))
  go_big_quiet_want; (with_reducible apply quiet_val)
  case hr => exact fun W hW => run_ldh _ (by rfl) gx 0 (by rfl) _ hll (bw_range hW X13.out.all X13.out.lt)
  go_simp
  go_big_quiet_on
  go_big_quiet_want; (with_reducible apply quiet_val)
  case hr => exact fun W hW => run_same _ _ _ (by rfl) _ (by rfl) (by rfl) hll
  go_simp
  go_big_quiet_on
  go_big_quiet_step (fail)
  go_big_quiet_step (fail)
  go_big_quiet_step (fail)
  go_big_quiet_step (exact quiet_bw _ (Q3.out _))
  go_big_quiet_step (fail)
  go_big_quiet_step (exact quiet_bw _ (Q4.out _))
  go_big_quiet_want; (with_reducible apply quiet_val)
  case hr => exact fun W hW => run_same _ _ _ (by rfl) _ (by rfl) (by rfl) hlm
  go_simp
  go_big_quiet_on
  go_big_quiet_step (fail)
  go_big_quiet_step (fail)
  go_big_quiet_step (fail)
  go_big_quiet_step (fail)
  go_big_quiet_step (fail)
  refine wpQuiet_nil ?_; intro _ hwq; obtain ⟨⟨wq, hbq⟩, hwq'⟩ := hwq; subst hwq'
  go_wp2_with fail
  go_ret
  exact ⟨rfl, (S13.out.below hbq).b⟩
theorem apart_walk (A : Option Addr) (l : List UInt8) (c : Nat) (_ : l.length ≤ c) (_ : c ≤ maxLen) {w : World} (hA : Sl w w.heap.size 1 A l.length (bts l)) (A' : Option Addr) (m : List UInt8) (c' : Nat) (_ : m.length ≤ c') (_ : c' ≤ maxLen) (hA' : Sl w w.heap.size 1 A' m.length (bts m)) (_ : World) (hr : Roots w ∧ 0 < w.heap.size) :
    Calls Tryd.prog 5 #[.slice A l.length c, .slice A' m.length c'] w fun e w' => e = .returned (.bool true) ∧ Below w.heap.size w w' := apart_any A A' l m c c' w hr.1 hr.2 hA hA'
end Go.Proofs.YtmiifbamflkiaaaDoor

/- What this text proves: the contract of the law SchnorrSigns. The conditions are how the arguments lie in memory, and that the package's table is as its text lays it. -/
import Derived.Test.YtcnmoallgfdomaaDoorSgRSign
import Derived.Test.YtcnmoallgfdomaaDoorConv
namespace Go.Proofs.YtcnmoallgfdomaaDoor
open Go.RowKit
set_option linter.unusedVariables false
set_option linter.unusedSimpArgs false

attribute [local irreducible] digF numN sigR sigS keyErr
set_option maxRecDepth 100000 in
set_option maxHeartbeats 4000000 in
theorem signs_any (s : Nat) (A : Option Addr) (m : List UInt8) (c : Nat) (w : World) (hr : Roots w) (h0 : 2 < w.heap.size) (hsn : s < 18446744073709551616) (hg : Part.good w (A, c, m)) :
    Calls Tryd.prog 4 #[.int .u64 s, .slice A m.length c] w fun e w' => e = .returned (.bool true) ∧ Below w.heap.size w w' := by
  have HR := Lib.hid hr
  have HG := Lib.hid hg
  clear hr hg
  have hzs := zero_sig
  by_cases hbig : 2000 < m.length
  · have e1 : decide ((2000 : Int) < (m.length : Int)) = true := decide_eq_true (by omega)
    go_enter Tryd.func4, Tryd.ntmps4
    go_wp2_with fail
    with_reducible refine (alive_any w).mono ?_
    rintro e w1 ⟨rfl, hb⟩
    go_wp2_with fail
    go_ret
    exact ⟨rfl, hb⟩
  have e1 : decide ((2000 : Int) < (m.length : Int)) = false := decide_eq_false (by omega)
  have b2 : m.length ≤ 2000 := by omega
  go_enter Tryd.func4, Tryd.ntmps4
  obtain ⟨i0, hi, hz0, hz1, hz2⟩ := info_parts u8_info
  go_upto_region 3 with fail
  have O9 := Lib.hid (World.ownsRow_made (base := w.heap.size) (e := 5) (size := 1) w #[] 0 (Nat.le_refl _) (by unfold maxLen; omega) (by simp))
  have L9 : Hid (Below w.heap.size w (w.alloc (.cells #[] 5))) := Lib.hid (by (first | assumption | (repeat (first | exact Below.refl _ _ | assumption | apply Below.drew | apply below_drewN | (refine Below.setCell ?_ (by (try simp) <;> omega) _) | (refine Below.alloc ?_ (by (try simp) <;> omega) _)))))
  go_upto_region 4 with (refine wpList_append_sl (w.alloc (.cells #[] 5)) (by rfl) _ _ 23 (by rfl) w.heap.size 5 i0 _ 1 1 Tryd.underlying23 hi hz0 hz1 hz2 rfl (by omega) (.slice (some ⟨w.heap.size, 0, none⟩) 0 0) 0 [] (by rfl) O9.out A m.length c (bts m) (by rfl) ((HG.out.2.2.below L9.out).more L9.out.size) bts_one (by unfold maxLen; omega) (by omega) (by simp) ?_; intro v10 w10 ho_ hg_ hv_; have O10 := Lib.hid ho_; have L10 : Hid (Below w.heap.size w w10) := Lib.hid (L9.out.grown hg_ (by simp) (fun k hk => (own_cells O9.out hk).1)); clear ho_ hg_ hv_)
  have ho := O10.out
  rw [Nat.zero_add, List.nil_append] at ho
  obtain ⟨Ao, co, rfl, hv1, hv2, hvs⟩ := own_sl ho
  have G10 : Hid (Part.good w10 (Ao, co, m)) := Lib.hid ⟨hv1, hv2, hvs⟩
  clear ho hvs hv1 hv2 O10 O9 L9
  go_wp2_with fail
  with_reducible refine (sign_any s Ao m co w10 (HR.out.below L10.out h0) (Nat.lt_of_lt_of_le h0 L10.out.size) hsn G10.out).mono ?_
  rintro e w11 ⟨rfl, hb11⟩
  obtain ⟨RR, hRR⟩ : ∃ x, sigR s m = x := ⟨_, rfl⟩
  obtain ⟨SS, hSS⟩ : ∃ x, sigS s m = x := ⟨_, rfl⟩
  obtain ⟨EE, hEE⟩ : ∃ x, keyErr s = x := ⟨_, rfl⟩
  have P5 := Lib.hid fun W hg => rsign_any s A m c W b2 hsn hg
  rw [hRR, hSS, hEE] at P5 ⊢
  have G11 := Lib.hid (G10.out.below hb11)
  have L11 : Hid (Below w.heap.size w w11) := Lib.hid (L10.out.trans (hb11.mono L10.out.size))
  clear hb11 hRR hSS hEE G10 L10
  go_upto_region 5 with fail
  have X12 := Lib.hid (Bk.new w11 25 #[.int .u64 RR, .int .u64 SS])
  have Y12 : Hid (Below w11.heap.size w11 (w11.alloc (.cells #[.int .u64 RR, .int .u64 SS] 25))) := Lib.hid (by (first | assumption | (repeat (first | exact Below.refl _ _ | assumption | apply Below.drew | apply below_drewN | (refine Below.setCell ?_ (by (try simp) <;> omega) _) | (refine Below.alloc ?_ (by (try simp) <;> omega) _)))))
  obtain ⟨w12, hw12⟩ : ∃ W, w11.alloc (.cells #[.int .u64 RR, .int .u64 SS] 25) = W := ⟨_, rfl⟩
  rw [hw12] at X12 Y12 ⊢
  obtain ⟨ga, hga⟩ : ∃ x, w11.heap.size = x := ⟨_, rfl⟩
  have G12 := Lib.hid (G11.out.below Y12.out)
  have L12 : Hid (Below w.heap.size w w12) := Lib.hid (L11.out.trans (Y12.out.mono L11.out.size))
  rw [hga] at X12 ⊢
  clear hw12 hga Y12 G11 L11
  go_wp2_with fail
  with_reducible refine (P5.out w12 (HG.out.below L12.out)).mono ?_
  rintro e w13 ⟨rfl, hb13⟩
  have X13 := Lib.hid (X12.out.below hb13 X12.out.lt)
  have G13 := Lib.hid (G12.out.below hb13)
  have L13 : Hid (Below w.heap.size w w13) := Lib.hid (L12.out.trans (hb13.mono L12.out.size))
  clear hb13 X12 G12 L12 P5
  go_upto_region 6 with fail
  have Z14 := Lib.hid (Bk.new w13 25 #[.int .u64 RR, .int .u64 SS])
  have Y14 : Hid (Below w13.heap.size w13 (w13.alloc (.cells #[.int .u64 RR, .int .u64 SS] 25))) := Lib.hid (by (first | assumption | (repeat (first | exact Below.refl _ _ | assumption | apply Below.drew | apply below_drewN | (refine Below.setCell ?_ (by (try simp) <;> omega) _) | (refine Below.alloc ?_ (by (try simp) <;> omega) _)))))
  obtain ⟨w14, hw14⟩ : ∃ W, w13.alloc (.cells #[.int .u64 RR, .int .u64 SS] 25) = W := ⟨_, rfl⟩
  rw [hw14] at Z14 Y14 ⊢
  obtain ⟨gb, hgb⟩ : ∃ x, w13.heap.size = x := ⟨_, rfl⟩
  have X14 := Lib.hid (X13.out.below Y14.out X13.out.lt)
  have G14 := Lib.hid (G13.out.below Y14.out)
  have L14 : Hid (Below w.heap.size w w14) := Lib.hid (L13.out.trans (Y14.out.mono L13.out.size))
  rw [hgb] at Z14 ⊢
  clear hw14 hgb Y14 X13 G13 L13
  go_wp2_with fail
  with_reducible refine (alive_any w14).mono ?_
  rintro e w15 ⟨rfl, hb15⟩
  have X15 := Lib.hid (X14.out.below hb15 X14.out.lt)
  have Z15 := Lib.hid (Z14.out.below hb15 Z14.out.lt)
  have G15 := Lib.hid (G14.out.below hb15)
  have L15 : Hid (Below w.heap.size w w15) := Lib.hid (L14.out.trans (hb15.mono L14.out.size))
  have H15 := Lib.hid (HG.out.below L15.out)
  clear hb15 X14 Z14 G14 L14
  have x0 := X15.out.cell 0
  have x1 := X15.out.cell 1
  have z0 := Z15.out.cell 0
  have z1 := Z15.out.cell 1
  have hcv1 := run_conv (P := Tryd.prog) (dst := 9) Tryd.underlying23 Tryd.underlying5 Tryd.underlying9 co G15.out.2.2
  have hcv2 := run_conv (P := Tryd.prog) (dst := 9) Tryd.underlying23 Tryd.underlying5 Tryd.underlying9 c H15.out.2.2
  obtain ⟨X, hX⟩ : ∃ X, strOf m = X := ⟨_, rfl⟩
  simp only at hcv1 hcv2
  rw [hX] at hcv1 hcv2
  have e5 : ((RR : Int) == RR) = true := by simp
  have e6 : ((SS : Int) == SS) = true := by simp
  have e7 : (EE == EE) = true := by simp
  go_wp2_with fail
  go_ret
  exact ⟨rfl, L15.out⟩
theorem signs_walk (s : Nat) (hsn : s < 18446744073709551616) (A : Option Addr) (m : List UInt8) (c : Nat) (hl : m.length ≤ c) (hc : c ≤ maxLen) {w : World} (hA : Sl w w.heap.size 1 A m.length (bts m)) (_ : World) (hr : Roots w ∧ 2 < w.heap.size) :
    Calls Tryd.prog 4 #[.int .u64 s, .slice A m.length c] w fun e w' => e = .returned (.bool true) ∧ Below w.heap.size w w' := signs_any s A m c w hr.1 hr.2 hsn ⟨hl, hc, hA⟩
end Go.Proofs.YtcnmoallgfdomaaDoor

/- What this text proves: the contract of the law SchnorrShift. The conditions are how the arguments lie in memory, and that the package's table is as its text lays it. -/
import Derived.Test.YtcnmoallgfdomaaDoorSgMath
namespace Go.Proofs.YtcnmoallgfdomaaDoor
open Go.RowKit
set_option linter.unusedVariables false
set_option linter.unusedSimpArgs false

attribute [local irreducible] digF numN sigR sigS keyErr keyOf verF
set_option maxRecDepth 100000 in
set_option maxHeartbeats 8000000 in
theorem shift_any (s : Nat) (A : Option Addr) (m : List UInt8) (c : Nat) (w : World) (hr : Roots w) (h0 : 2 < w.heap.size) (hsn : s < 18446744073709551616) (hg : Part.good w (A, c, m)) :
    Calls Tryd.prog 6 #[.int .u64 s, .slice A m.length c] w fun e w' => e = .returned (.bool true) ∧ Below w.heap.size w w' := by
  have HR := Lib.hid hr
  have HG := Lib.hid hg
  clear hr hg
  have hzs := zero_sig
  have K := Lib.hid (key_any s w hsn)
  by_cases hbig : 2000 < m.length
  · have e1 : decide ((2000 : Int) < (m.length : Int)) = true := decide_eq_true (by omega)
    go_enter Tryd.func6, Tryd.ntmps6
    go_wp2_with fail
    with_reducible refine K.out.mono ?_
    rintro e w0 ⟨rfl, hb0⟩
    go_wp2_with fail
    with_reducible refine (alive_any w0).mono ?_
    rintro e w1 ⟨rfl, hb⟩
    go_wp2_with fail
    go_ret
    exact ⟨rfl, hb0.trans (hb.mono hb0.size)⟩
  have e1 : decide ((2000 : Int) < (m.length : Int)) = false := decide_eq_false (by omega)
  by_cases h : 1 ≤ s ∧ s < QQ
  · obtain ⟨k1, k2⟩ := key_yes h
    have hver := verF_next s m h
    rw [k1, k2] at K
    have P5 := Lib.hid fun W hR h0 hg => sign_any s A m c W hR h0 hsn hg
    rw [k2] at P5
    obtain ⟨key, hkey⟩ : ∃ x, 37 ^ s % PP = x := ⟨_, rfl⟩
    have hkn : key < 2305843009213693951 := by rw [← hkey]; exact Nat.mod_lt _ (by decide)
    have hRn : sigR s m < 2305843009213693951 := by
      rw [show sigR s m = 37 ^ nonceK s m % PP from by unfold sigR; exact if_pos h]
      exact Nat.mod_lt _ (by decide)
    have hSn : sigS s m < 2305843009213693950 := by
      rw [show sigS s m = (nonceK s m + chal (37 ^ nonceK s m % PP) (37 ^ s % PP) m * s % QQ) % QQ from by unfold sigS; exact if_pos h]
      exact Nat.mod_lt _ (by decide)
    obtain ⟨RR, hRR⟩ : ∃ x, sigR s m = x := ⟨_, rfl⟩
    obtain ⟨SS, hSS⟩ : ∃ x, sigS s m = x := ⟨_, rfl⟩
    rw [hkey] at K hver
    rw [hRR] at P5 hver hRn
    rw [hSS] at P5 hver hSn
    obtain ⟨S1, hS1⟩ : ∃ x, (SS + 1) % QQ = x := ⟨_, rfl⟩
    rw [hS1] at hver
    have HV := Lib.hid hver
    have hS1n : S1 < 18446744073709551616 := by rw [← hS1]; exact Nat.lt_trans (Nat.mod_lt _ (by decide)) (by decide)
    have HS1 := Lib.hid (show ((SS : Int) + 1) % 2305843009213693950 = (S1 : Int) from by rw [← hS1]; unfold QQ; omega)
    clear h k1 k2 hver hkey hRR hSS hS1
    go_enter Tryd.func6, Tryd.ntmps6
    go_wp2_with fail
    with_reducible refine K.out.mono ?_
    rintro e w1 ⟨rfl, hb1⟩
    have L1 := Lib.hid hb1
    clear hb1 K
    go_wp2_with fail
    with_reducible refine (P5.out w1 (HR.out.below L1.out h0) (Nat.lt_of_lt_of_le h0 L1.out.size) (HG.out.below L1.out)).mono ?_
    rintro e w2 ⟨rfl, hb2⟩
    have L2 : Hid (Below w.heap.size w w2) := Lib.hid (L1.out.trans (hb2.mono L1.out.size))
    clear hb2 L1 P5
    go_upto_region 5 with fail
    have X3 := Lib.hid (Bk.new w2 25 #[.int .u64 RR, .int .u64 SS])
    have Y3 : Hid (Below w2.heap.size w2 (w2.alloc (.cells #[.int .u64 RR, .int .u64 SS] 25))) := Lib.hid (by (first | assumption | (repeat (first | exact Below.refl _ _ | assumption | apply Below.drew | apply below_drewN | (refine Below.setCell ?_ (by (try simp) <;> omega) _) | (refine Below.alloc ?_ (by (try simp) <;> omega) _)))))
    obtain ⟨w3, hw3⟩ : ∃ W, w2.alloc (.cells #[.int .u64 RR, .int .u64 SS] 25) = W := ⟨_, rfl⟩
    rw [hw3] at X3 Y3 ⊢
    obtain ⟨ga, hga⟩ : ∃ x, w2.heap.size = x := ⟨_, rfl⟩
    have L3 : Hid (Below w.heap.size w w3) := Lib.hid (L2.out.trans (Y3.out.mono L2.out.size))
    rw [hga] at X3 ⊢
    clear hw3 hga Y3 L2
    have x0 := X3.out.cell 0
    have x1 := X3.out.cell 1
    have hs1 := HS1.out
    have hlt := X3.out.lt
    obtain ⟨b1, hb1⟩ : ∃ x, SS + 2305843009213693952 = x := ⟨_, rfl⟩
    have hbi : (SS : Int) + 2305843009213693952 = (b1 : Int) := by omega
    obtain ⟨b2, hb2⟩ : ∃ x, b1 - 2 = x := ⟨_, rfl⟩
    have hbj : (b1 : Int) - 2 = (b2 : Int) := by omega
    obtain ⟨d1, hd1⟩ : ∃ x, RR + 2305843009213693952 = x := ⟨_, rfl⟩
    have hdi : (RR : Int) + 2305843009213693952 = (d1 : Int) := by omega
    obtain ⟨d2, hd2⟩ : ∃ x, d1 - 1 = x := ⟨_, rfl⟩
    have hdj : (d1 : Int) - 1 = (d2 : Int) := by omega
    obtain ⟨q1, hq1⟩ : ∃ x, key + 2305843009213693952 = x := ⟨_, rfl⟩
    have hqi : (key : Int) + 2305843009213693952 = (q1 : Int) := by omega
    obtain ⟨q2, hq2⟩ : ∃ x, q1 - 1 = x := ⟨_, rfl⟩
    have hqj : (q1 : Int) - 1 = (q2 : Int) := by omega
    have HB := Lib.hid (show QQ ≤ b2 ∧ b2 < 18446744073709551616 from by unfold QQ; omega)
    have HD := Lib.hid (show PP ≤ d2 ∧ d2 < 18446744073709551616 from by unfold PP; omega)
    have HQ := Lib.hid (show PP ≤ q2 ∧ q2 < 18446744073709551616 from by unfold PP; omega)
    have hb1n : b1 < 9223372036854775807 := by omega
    have hd1n : d1 < 9223372036854775807 := by omega
    have hq1n : q1 < 9223372036854775807 := by omega
    have hb1m : 2 ≤ b1 := by omega
    have hd1m : 1 ≤ d1 := by omega
    have hq1m : 1 ≤ q1 := by omega
    clear hb1 hb2 hd1 hd2 hq1 hq2
    clear x0 x1 hlt
    have x0 := X3.out.cell 0
    have x1 := X3.out.cell 1
    go_upto_region 8 with fail
    have N4 := Lib.hid (Bk.new w3 25 #[.int .u64 RR, .int .u64 SS])
    have Y4 : Hid (Below w3.heap.size w3 (w3.alloc (.cells #[.int .u64 RR, .int .u64 SS] 25))) := Lib.hid (by (first | assumption | (repeat (first | exact Below.refl _ _ | assumption | apply Below.drew | apply below_drewN | (refine Below.setCell ?_ (by (try simp) <;> omega) _) | (refine Below.alloc ?_ (by (try simp) <;> omega) _)))))
    obtain ⟨w4, hw⟩ : ∃ W, w3.alloc (.cells #[.int .u64 RR, .int .u64 SS] 25) = W := ⟨_, rfl⟩
    rw [hw] at N4 Y4 ⊢
    obtain ⟨gb, hg_⟩ : ∃ x, w3.heap.size = x := ⟨_, rfl⟩
    have ga_lt := X3.out.lt
    have Fga4 := Lib.hid (X3.out.below Y4.out X3.out.lt)
    have L4 : Hid (Below w.heap.size w w4) := Lib.hid (L3.out.trans (Y4.out.mono L3.out.size))
    have hwg : w.heap.size ≤ gb := by rw [← hg_]; exact L3.out.size
    rw [hg_] at N4 ga_lt ⊢
    clear hw hg_ Y4 x0 x1 L3 X3
    have x0 := Fga4.out.cell 0
    have x1 := Fga4.out.cell 1
    have y0 := N4.out.cell 1
    have yf := N4.out.frozen 1
    go_upto_region 9 with fail
    have M5 := Lib.hid (N4.out.set_ 1 (.int .u64 (S1 : Int)))
    have Fga5 := Lib.hid (Fga4.out.far (p := ⟨gb, 1, none⟩) (show ga ≠ gb by omega) (.int .u64 (S1 : Int)))
    have L5 : Hid (Below w.heap.size w (w4.setCell ⟨gb, 1, none⟩ (.int .u64 (S1 : Int)))) := Lib.hid (L4.out.setCell (by simp only; omega) _)
    obtain ⟨w5, hw⟩ : ∃ W, w4.setCell ⟨gb, 1, none⟩ (.int .u64 (S1 : Int)) = W := ⟨_, rfl⟩
    rw [hw] at M5 Fga5 L5 ⊢
    clear hw hwg x0 x1 y0 yf N4 L4 Fga4 ga_lt
    have x0 := Fga5.out.cell 0
    have x1 := Fga5.out.cell 1
    go_upto_region 10 with fail
    have N6 := Lib.hid (Bk.new w5 25 #[.int .u64 RR, .int .u64 SS])
    have Y6 : Hid (Below w5.heap.size w5 (w5.alloc (.cells #[.int .u64 RR, .int .u64 SS] 25))) := Lib.hid (by (first | assumption | (repeat (first | exact Below.refl _ _ | assumption | apply Below.drew | apply below_drewN | (refine Below.setCell ?_ (by (try simp) <;> omega) _) | (refine Below.alloc ?_ (by (try simp) <;> omega) _)))))
    obtain ⟨w6, hw⟩ : ∃ W, w5.alloc (.cells #[.int .u64 RR, .int .u64 SS] 25) = W := ⟨_, rfl⟩
    rw [hw] at N6 Y6 ⊢
    obtain ⟨gc, hg_⟩ : ∃ x, w5.heap.size = x := ⟨_, rfl⟩
    have ga_lt := Fga5.out.lt
    have Fga6 := Lib.hid (Fga5.out.below Y6.out Fga5.out.lt)
    have gb_lt := M5.out.lt
    have Fgb6 := Lib.hid (M5.out.below Y6.out M5.out.lt)
    have L6 : Hid (Below w.heap.size w w6) := Lib.hid (L5.out.trans (Y6.out.mono L5.out.size))
    have hwg : w.heap.size ≤ gc := by rw [← hg_]; exact L5.out.size
    rw [hg_] at N6 ga_lt gb_lt ⊢
    clear hw hg_ Y6 x0 x1 L5 Fga5 M5
    have x0 := Fga6.out.cell 0
    have x1 := Fga6.out.cell 1
    have y0 := N6.out.cell 1
    have yf := N6.out.frozen 1
    go_upto_region 11 with fail
    have M7 := Lib.hid (N6.out.set_ 1 (.int .u64 (b2 : Int)))
    have Fga7 := Lib.hid (Fga6.out.far (p := ⟨gc, 1, none⟩) (show ga ≠ gc by omega) (.int .u64 (b2 : Int)))
    have Fgb7 := Lib.hid (Fgb6.out.far (p := ⟨gc, 1, none⟩) (show gb ≠ gc by omega) (.int .u64 (b2 : Int)))
    have L7 : Hid (Below w.heap.size w (w6.setCell ⟨gc, 1, none⟩ (.int .u64 (b2 : Int)))) := Lib.hid (L6.out.setCell (by simp only; omega) _)
    obtain ⟨w7, hw⟩ : ∃ W, w6.setCell ⟨gc, 1, none⟩ (.int .u64 (b2 : Int)) = W := ⟨_, rfl⟩
    rw [hw] at M7 Fga7 Fgb7 L7 ⊢
    clear hw hwg x0 x1 y0 yf N6 L6 Fga6 Fgb6 ga_lt gb_lt
    have x0 := Fga7.out.cell 0
    have x1 := Fga7.out.cell 1
    go_upto_region 12 with fail
    have N8 := Lib.hid (Bk.new w7 25 #[.int .u64 RR, .int .u64 SS])
    have Y8 : Hid (Below w7.heap.size w7 (w7.alloc (.cells #[.int .u64 RR, .int .u64 SS] 25))) := Lib.hid (by (first | assumption | (repeat (first | exact Below.refl _ _ | assumption | apply Below.drew | apply below_drewN | (refine Below.setCell ?_ (by (try simp) <;> omega) _) | (refine Below.alloc ?_ (by (try simp) <;> omega) _)))))
    obtain ⟨w8, hw⟩ : ∃ W, w7.alloc (.cells #[.int .u64 RR, .int .u64 SS] 25) = W := ⟨_, rfl⟩
    rw [hw] at N8 Y8 ⊢
    obtain ⟨gd, hg_⟩ : ∃ x, w7.heap.size = x := ⟨_, rfl⟩
    have ga_lt := Fga7.out.lt
    have Fga8 := Lib.hid (Fga7.out.below Y8.out Fga7.out.lt)
    have gb_lt := Fgb7.out.lt
    have Fgb8 := Lib.hid (Fgb7.out.below Y8.out Fgb7.out.lt)
    have gc_lt := M7.out.lt
    have Fgc8 := Lib.hid (M7.out.below Y8.out M7.out.lt)
    have L8 : Hid (Below w.heap.size w w8) := Lib.hid (L7.out.trans (Y8.out.mono L7.out.size))
    have hwg : w.heap.size ≤ gd := by rw [← hg_]; exact L7.out.size
    rw [hg_] at N8 ga_lt gb_lt gc_lt ⊢
    clear hw hg_ Y8 x0 x1 L7 Fga7 Fgb7 M7
    have x0 := Fga8.out.cell 0
    have x1 := Fga8.out.cell 1
    have y0 := N8.out.cell 0
    have yf := N8.out.frozen 0
    go_upto_region 13 with fail
    have M9 := Lib.hid (N8.out.set_ 0 (.int .u64 0))
    have Fga9 := Lib.hid (Fga8.out.far (p := ⟨gd, 0, none⟩) (show ga ≠ gd by omega) (.int .u64 0))
    have Fgb9 := Lib.hid (Fgb8.out.far (p := ⟨gd, 0, none⟩) (show gb ≠ gd by omega) (.int .u64 0))
    have Fgc9 := Lib.hid (Fgc8.out.far (p := ⟨gd, 0, none⟩) (show gc ≠ gd by omega) (.int .u64 0))
    have L9 : Hid (Below w.heap.size w (w8.setCell ⟨gd, 0, none⟩ (.int .u64 0))) := Lib.hid (L8.out.setCell (by simp only; omega) _)
    obtain ⟨w9, hw⟩ : ∃ W, w8.setCell ⟨gd, 0, none⟩ (.int .u64 0) = W := ⟨_, rfl⟩
    rw [hw] at M9 Fga9 Fgb9 Fgc9 L9 ⊢
    clear hw hwg x0 x1 y0 yf N8 L8 Fga8 Fgb8 Fgc8 ga_lt gb_lt gc_lt
    have x0 := Fga9.out.cell 0
    have x1 := Fga9.out.cell 1
    go_upto_region 14 with fail
    have N10 := Lib.hid (Bk.new w9 25 #[.int .u64 RR, .int .u64 SS])
    have Y10 : Hid (Below w9.heap.size w9 (w9.alloc (.cells #[.int .u64 RR, .int .u64 SS] 25))) := Lib.hid (by (first | assumption | (repeat (first | exact Below.refl _ _ | assumption | apply Below.drew | apply below_drewN | (refine Below.setCell ?_ (by (try simp) <;> omega) _) | (refine Below.alloc ?_ (by (try simp) <;> omega) _)))))
    obtain ⟨w10, hw⟩ : ∃ W, w9.alloc (.cells #[.int .u64 RR, .int .u64 SS] 25) = W := ⟨_, rfl⟩
    rw [hw] at N10 Y10 ⊢
    obtain ⟨ge, hg_⟩ : ∃ x, w9.heap.size = x := ⟨_, rfl⟩
    have ga_lt := Fga9.out.lt
    have Fga10 := Lib.hid (Fga9.out.below Y10.out Fga9.out.lt)
    have gb_lt := Fgb9.out.lt
    have Fgb10 := Lib.hid (Fgb9.out.below Y10.out Fgb9.out.lt)
    have gc_lt := Fgc9.out.lt
    have Fgc10 := Lib.hid (Fgc9.out.below Y10.out Fgc9.out.lt)
    have gd_lt := M9.out.lt
    have Fgd10 := Lib.hid (M9.out.below Y10.out M9.out.lt)
    have L10 : Hid (Below w.heap.size w w10) := Lib.hid (L9.out.trans (Y10.out.mono L9.out.size))
    have hwg : w.heap.size ≤ ge := by rw [← hg_]; exact L9.out.size
    rw [hg_] at N10 ga_lt gb_lt gc_lt gd_lt ⊢
    clear hw hg_ Y10 x0 x1 L9 Fga9 Fgb9 Fgc9 M9
    have x0 := Fga10.out.cell 0
    have x1 := Fga10.out.cell 1
    have y0 := N10.out.cell 0
    have yf := N10.out.frozen 0
    go_upto_region 15 with fail
    have M11 := Lib.hid (N10.out.set_ 0 (.int .u64 (d2 : Int)))
    have Fga11 := Lib.hid (Fga10.out.far (p := ⟨ge, 0, none⟩) (show ga ≠ ge by omega) (.int .u64 (d2 : Int)))
    have Fgb11 := Lib.hid (Fgb10.out.far (p := ⟨ge, 0, none⟩) (show gb ≠ ge by omega) (.int .u64 (d2 : Int)))
    have Fgc11 := Lib.hid (Fgc10.out.far (p := ⟨ge, 0, none⟩) (show gc ≠ ge by omega) (.int .u64 (d2 : Int)))
    have Fgd11 := Lib.hid (Fgd10.out.far (p := ⟨ge, 0, none⟩) (show gd ≠ ge by omega) (.int .u64 (d2 : Int)))
    have L11 : Hid (Below w.heap.size w (w10.setCell ⟨ge, 0, none⟩ (.int .u64 (d2 : Int)))) := Lib.hid (L10.out.setCell (by simp only; omega) _)
    obtain ⟨w11, hw⟩ : ∃ W, w10.setCell ⟨ge, 0, none⟩ (.int .u64 (d2 : Int)) = W := ⟨_, rfl⟩
    rw [hw] at M11 Fga11 Fgb11 Fgc11 Fgd11 L11 ⊢
    clear hw hwg x0 x1 y0 yf N10 L10 Fga10 Fgb10 Fgc10 Fgd10 ga_lt gb_lt gc_lt gd_lt
    clear hs1 hbi hbj hdi hdj hb1n hd1n hb1m hd1m
    go_wp2_with fail
    with_reducible refine (alive_any w11).mono ?_
    rintro e w12 ⟨rfl, hbb⟩
    have Fga12 := Lib.hid (Fga11.out.below hbb Fga11.out.lt)
    have Fgb12 := Lib.hid (Fgb11.out.below hbb Fgb11.out.lt)
    have Fgc12 := Lib.hid (Fgc11.out.below hbb Fgc11.out.lt)
    have Fgd12 := Lib.hid (Fgd11.out.below hbb Fgd11.out.lt)
    have Fge12 := Lib.hid (M11.out.below hbb M11.out.lt)
    have L12 : Hid (Below w.heap.size w w12) := Lib.hid (L11.out.trans (hbb.mono L11.out.size))
    clear hbb L11 Fga11 Fgb11 Fgc11 Fgd11 M11
    have x0 := Fgb12.out.cell 0
    have x1 := Fgb12.out.cell 1
    have hvc := verify_any key RR S1 A m c w12 (HR.out.below L12.out h0) (Nat.lt_of_lt_of_le h0 L12.out.size) (by omega) (by omega) hS1n (HG.out.below L12.out)
    rw [HV.out] at hvc
    have hvd : Calls Tryd.prog 8 #[.int .u64 (key : Int), .slice A m.length c, .agg #[.int .u64 (RR : Int), .int .u64 (S1 : Int)]] w12 fun e w' => e = .returned (.bool false) ∧ Below w12.heap.size w12 w' := hvc
    clear hvc
    go_wp2_with fail
    with_reducible refine hvd.mono ?_
    rintro e w13 ⟨rfl, hbb⟩
    have Fga13 := Lib.hid (Fga12.out.below hbb Fga12.out.lt)
    have Fgb13 := Lib.hid (Fgb12.out.below hbb Fgb12.out.lt)
    have Fgc13 := Lib.hid (Fgc12.out.below hbb Fgc12.out.lt)
    have Fgd13 := Lib.hid (Fgd12.out.below hbb Fgd12.out.lt)
    have Fge13 := Lib.hid (Fge12.out.below hbb Fge12.out.lt)
    have L13 : Hid (Below w.heap.size w w13) := Lib.hid (L12.out.trans (hbb.mono L12.out.size))
    clear hbb L12 Fga12 Fgb12 Fgc12 Fgd12 Fge12
    clear hvd x0 x1
    have x0 := Fgc13.out.cell 0
    have x1 := Fgc13.out.cell 1
    have hvc := verify_any key RR b2 A m c w13 (HR.out.below L13.out h0) (Nat.lt_of_lt_of_le h0 L13.out.size) (by omega) (by omega) HB.out.2 (HG.out.below L13.out)
    rw [show verF key m RR b2 = false from verF_big HB.out.1] at hvc
    have hvd : Calls Tryd.prog 8 #[.int .u64 (key : Int), .slice A m.length c, .agg #[.int .u64 (RR : Int), .int .u64 (b2 : Int)]] w13 fun e w' => e = .returned (.bool false) ∧ Below w13.heap.size w13 w' := hvc
    clear hvc
    go_wp2_with fail
    with_reducible refine hvd.mono ?_
    rintro e w14 ⟨rfl, hbb⟩
    have Fga14 := Lib.hid (Fga13.out.below hbb Fga13.out.lt)
    have Fgb14 := Lib.hid (Fgb13.out.below hbb Fgb13.out.lt)
    have Fgc14 := Lib.hid (Fgc13.out.below hbb Fgc13.out.lt)
    have Fgd14 := Lib.hid (Fgd13.out.below hbb Fgd13.out.lt)
    have Fge14 := Lib.hid (Fge13.out.below hbb Fge13.out.lt)
    have L14 : Hid (Below w.heap.size w w14) := Lib.hid (L13.out.trans (hbb.mono L13.out.size))
    clear hbb L13 Fga13 Fgb13 Fgc13 Fgd13 Fge13
    clear hvd x0 x1
    have x0 := Fgd14.out.cell 0
    have x1 := Fgd14.out.cell 1
    have hvc := verify_any key 0 SS A m c w14 (HR.out.below L14.out h0) (Nat.lt_of_lt_of_le h0 L14.out.size) (by omega) (by decide) (by omega) (HG.out.below L14.out)
    rw [show verF key m 0 SS = false from verF_r (.inl rfl)] at hvc
    have hvd : Calls Tryd.prog 8 #[.int .u64 (key : Int), .slice A m.length c, .agg #[.int .u64 0, .int .u64 (SS : Int)]] w14 fun e w' => e = .returned (.bool false) ∧ Below w14.heap.size w14 w' := hvc
    clear hvc
    go_wp2_with fail
    with_reducible refine hvd.mono ?_
    rintro e w15 ⟨rfl, hbb⟩
    have Fga15 := Lib.hid (Fga14.out.below hbb Fga14.out.lt)
    have Fgb15 := Lib.hid (Fgb14.out.below hbb Fgb14.out.lt)
    have Fgc15 := Lib.hid (Fgc14.out.below hbb Fgc14.out.lt)
    have Fgd15 := Lib.hid (Fgd14.out.below hbb Fgd14.out.lt)
    have Fge15 := Lib.hid (Fge14.out.below hbb Fge14.out.lt)
    have L15 : Hid (Below w.heap.size w w15) := Lib.hid (L14.out.trans (hbb.mono L14.out.size))
    clear hbb L14 Fga14 Fgb14 Fgc14 Fgd14 Fge14
    clear hvd x0 x1
    have x0 := Fge15.out.cell 0
    have x1 := Fge15.out.cell 1
    have hvc := verify_any key d2 SS A m c w15 (HR.out.below L15.out h0) (Nat.lt_of_lt_of_le h0 L15.out.size) (by omega) HD.out.2 (by omega) (HG.out.below L15.out)
    rw [show verF key m d2 SS = false from verF_r (.inr HD.out.1)] at hvc
    have hvd : Calls Tryd.prog 8 #[.int .u64 (key : Int), .slice A m.length c, .agg #[.int .u64 (d2 : Int), .int .u64 (SS : Int)]] w15 fun e w' => e = .returned (.bool false) ∧ Below w15.heap.size w15 w' := hvc
    clear hvc
    go_wp2_with fail
    with_reducible refine hvd.mono ?_
    rintro e w16 ⟨rfl, hbb⟩
    have Fga16 := Lib.hid (Fga15.out.below hbb Fga15.out.lt)
    have Fgb16 := Lib.hid (Fgb15.out.below hbb Fgb15.out.lt)
    have Fgc16 := Lib.hid (Fgc15.out.below hbb Fgc15.out.lt)
    have Fgd16 := Lib.hid (Fgd15.out.below hbb Fgd15.out.lt)
    have Fge16 := Lib.hid (Fge15.out.below hbb Fge15.out.lt)
    have L16 : Hid (Below w.heap.size w w16) := Lib.hid (L15.out.trans (hbb.mono L15.out.size))
    clear hbb L15 Fga15 Fgb15 Fgc15 Fgd15 Fge15
    clear hvd x0 x1
    have x0 := Fga16.out.cell 0
    have x1 := Fga16.out.cell 1
    have hvc := verify_any 0 RR SS A m c w16 (HR.out.below L16.out h0) (Nat.lt_of_lt_of_le h0 L16.out.size) (by decide) (by omega) (by omega) (HG.out.below L16.out)
    rw [show verF 0 m RR SS = false from verF_key (.inl rfl)] at hvc
    have hvd : Calls Tryd.prog 8 #[.int .u64 0, .slice A m.length c, .agg #[.int .u64 (RR : Int), .int .u64 (SS : Int)]] w16 fun e w' => e = .returned (.bool false) ∧ Below w16.heap.size w16 w' := hvc
    clear hvc
    go_wp2_with fail
    with_reducible refine hvd.mono ?_
    rintro e w17 ⟨rfl, hbb⟩
    have Fga17 := Lib.hid (Fga16.out.below hbb Fga16.out.lt)
    have Fgb17 := Lib.hid (Fgb16.out.below hbb Fgb16.out.lt)
    have Fgc17 := Lib.hid (Fgc16.out.below hbb Fgc16.out.lt)
    have Fgd17 := Lib.hid (Fgd16.out.below hbb Fgd16.out.lt)
    have Fge17 := Lib.hid (Fge16.out.below hbb Fge16.out.lt)
    have L17 : Hid (Below w.heap.size w w17) := Lib.hid (L16.out.trans (hbb.mono L16.out.size))
    clear hbb L16 Fga16 Fgb16 Fgc16 Fgd16 Fge16
    clear hvd x0 x1
    have x0 := Fga17.out.cell 0
    have x1 := Fga17.out.cell 1
    have hvc := verify_any q2 RR SS A m c w17 (HR.out.below L17.out h0) (Nat.lt_of_lt_of_le h0 L17.out.size) HQ.out.2 (by omega) (by omega) (HG.out.below L17.out)
    rw [show verF q2 m RR SS = false from verF_key (.inr HQ.out.1)] at hvc
    have hvd : Calls Tryd.prog 8 #[.int .u64 (q2 : Int), .slice A m.length c, .agg #[.int .u64 (RR : Int), .int .u64 (SS : Int)]] w17 fun e w' => e = .returned (.bool false) ∧ Below w17.heap.size w17 w' := hvc
    clear hvc
    go_wp2_with fail
    with_reducible refine hvd.mono ?_
    rintro e w18 ⟨rfl, hbb⟩
    have Fga18 := Lib.hid (Fga17.out.below hbb Fga17.out.lt)
    have Fgb18 := Lib.hid (Fgb17.out.below hbb Fgb17.out.lt)
    have Fgc18 := Lib.hid (Fgc17.out.below hbb Fgc17.out.lt)
    have Fgd18 := Lib.hid (Fgd17.out.below hbb Fgd17.out.lt)
    have Fge18 := Lib.hid (Fge17.out.below hbb Fge17.out.lt)
    have L18 : Hid (Below w.heap.size w w18) := Lib.hid (L17.out.trans (hbb.mono L17.out.size))
    clear hbb L17 Fga17 Fgb17 Fgc17 Fgd17 Fge17
    clear hvd x0 x1
    go_wp2_with fail
    go_ret
    exact ⟨rfl, L18.out⟩
  · obtain ⟨k1, k2⟩ := key_no h
    rw [k1, k2] at K
    clear h k1 k2
    go_enter Tryd.func6, Tryd.ntmps6
    go_wp2_with fail
    with_reducible refine K.out.mono ?_
    rintro e w0 ⟨rfl, hb0⟩
    go_wp2_with fail
    with_reducible refine (alive_any w0).mono ?_
    rintro e w1 ⟨rfl, hb⟩
    go_wp2_with fail
    go_ret
    exact ⟨rfl, hb0.trans (hb.mono hb0.size)⟩
theorem shift_walk (s : Nat) (hsn : s < 18446744073709551616) (A : Option Addr) (m : List UInt8) (c : Nat) (hl : m.length ≤ c) (hc : c ≤ maxLen) {w : World} (hA : Sl w w.heap.size 1 A m.length (bts m)) (_ : World) (hr : Roots w ∧ 2 < w.heap.size) :
    Calls Tryd.prog 6 #[.int .u64 s, .slice A m.length c] w fun e w' => e = .returned (.bool true) ∧ Below w.heap.size w w' := shift_any s A m c w hr.1 hr.2 hsn ⟨hl, hc, hA⟩
end Go.Proofs.YtcnmoallgfdomaaDoor

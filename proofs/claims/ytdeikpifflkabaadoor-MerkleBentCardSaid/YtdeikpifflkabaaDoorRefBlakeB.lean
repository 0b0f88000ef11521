/- What this text proves: the contract of the reference's mix: what it leaves of the words is what the function g leaves. The conditions are how the words lie in memory and the places' bounds. -/
import Derived.Test.YtdeikpifflkabaaDoorRefBlakeA
import Derived.Test.YtdeikpifflkabaaDoorBlakeOwn
namespace Go.Proofs.YtdeikpifflkabaaDoor
open Go.RowKit
set_option linter.unusedVariables false
set_option linter.unusedSimpArgs false

def mixH (V : List Int) (a b c d : Nat) (x : Int) (s r : Nat) : List Int :=
  half2 (half3 (half2 (V.set a (add32 (V.getD a 0) (add32 (V.getD b 0) x))) a d s) c d) c b r
def mixF (V : List Int) (a b c d : Nat) (x y : Int) : List Int := mixH (mixH V a b c d x 16 20) a b c d y 24 25
theorem mixF_gF (V M : List Int) (a b c d k : Nat) : mixF V a b c d (M.getD (figs.getD k 0) 0) (M.getD (figs.getD (k + 1) 0) 0) = gF V M a b c d k := rfl
theorem mixF_len {V : List Int} {a b c d : Nat} {x y : Int} : (mixF V a b c d x y).length = V.length := by simp [mixF, mixH, half2, half3]
theorem add32_three (a b x : Int) : ((a + b) % 4294967296 + x) % 4294967296 = add32 a (add32 b x) := by unfold add32; omega

/-- How the sixteen words lie. -/
abbrev VAt (w : World) (gv cv : Nat) (V : List Int) (B : Nat) : Prop := w.ownsRow B 81 1 (.slice (some ⟨gv, 0, none⟩) 16 cv) 16 (u32s V)
theorem VAt.word {w : World} {gv cv B : Nat} {V : List Int} (h : VAt w gv cv V B) (hl : V.length = 16) {i : Nat} (hi : i < 16) : w.cell? ⟨gv, i, none⟩ = some (.int .u32 (V.getD i 0)) := by
  rw [h.cellAt i (by omega), u32s_get hl hi]
theorem VAt.set_ {w : World} {gv cv B : Nat} {V : List Int} (h : VAt w gv cv V B) (i : Nat) (x : Int) : VAt (w.setCell ⟨gv, i, none⟩ (.int .u32 x)) gv cv (V.set i x) B := by
  have := (h.stored i (.int .u32 x)).1
  rwa [show (u32s V).set i (.int .u32 x) = u32s (V.set i x) from by simp [u32s, List.map_set]] at this
structure MixAt (w : World) (gv cv : Nat) (V : List Int) (B : Nat) (a b c d : Nat) : Prop where
  v : VAt w gv cv V B
  lv : V.length = 16
  la : a < 16
  lb : b < 16
  lc : c < 16
  ld : d < 16
theorem MixAt.drew {w : World} {gv cv B a b c d : Nat} {V : List Int} (h : MixAt w gv cv V B a b c d) : MixAt w.drew gv cv V B a b c d := ⟨h.v.drew, h.lv, h.la, h.lb, h.lc, h.ld⟩
theorem MixAt.set {w : World} {gv cv B a b c d : Nat} {V : List Int} (h : MixAt w gv cv V B a b c d) (i : Nat) (x : Int) : MixAt (w.setCell ⟨gv, i, none⟩ (.int .u32 x)) gv cv (V.set i x) B a b c d :=
  ⟨h.v.set_ i x, by rw [List.length_set]; exact h.lv, h.la, h.lb, h.lc, h.ld⟩

set_option maxRecDepth 100000 in
set_option maxHeartbeats 8000000 in
theorem mix_any (V : List Int) (a b c d : Nat) (x y : Int) (gv cv B : Nat) (w : World) (hx0 : 0 ≤ x) (hx1 : x < 4294967296) (hy0 : 0 ≤ y) (hy1 : y < 4294967296) (h : MixAt w gv cv V B a b c d) :
    Calls Tryd.prog 63 #[.slice (some ⟨gv, 0, none⟩) 16 cv, .agg #[.int .i64 a, .int .i64 b, .int .i64 c, .int .i64 d], .int .u32 x, .int .u32 y] w fun e w' => e = .returned (.tuple #[]) ∧ VAt w' gv cv (mixF V a b c d x y) B ∧ Moves (fun g _ => g = gv) w w' := by
  have HH := Lib.hid h
  have la : (a : Int) < 16 := by have := h.la; omega
  have lb : (b : Int) < 16 := by have := h.lb; omega
  have lc : (c : Int) < 16 := by have := h.lc; omega
  have ld : (d : Int) < 16 := by have := h.ld; omega
  have hgl : gv < w.heap.size := (h.v.lt gv (by simp [Value.ownBlock])).2
  clear h
  go_enter Tryd.func63, Tryd.ntmps63
  go_upto_region 1 with fail
  have ka := Bk.new w 103 #[.int .i64 a, .int .i64 b, .int .i64 c, .int .i64 d]
  obtain ⟨w1, hw1⟩ : ∃ z, w.alloc (.cells #[.int .i64 a, .int .i64 b, .int .i64 c, .int .i64 d] 103) = z := ⟨_, rfl⟩
  have H1 : Hid (MixAt w1 gv cv V B a b c d) := Lib.hid (by rw [← hw1]; exact ⟨HH.out.v.alloc _, HH.out.lv, HH.out.la, HH.out.lb, HH.out.lc, HH.out.ld⟩)
  have HM1 : Hid (Moves (fun g _ => g = gv) w w1) := Lib.hid (by rw [← hw1]; exact Moves.alloc _ _ _)
  rw [hw1] at ka ⊢
  have k0 := ka.cell 0
  have k1 := ka.cell 1
  have k2 := ka.cell 2
  have k3 := ka.cell 3
  clear hw1 HH ka
  go_upto_region 5 with fail
  clear k0 k1 k2 k3
  with_reducible refine wp_still_tail 14 (by kernel_rfl) (by kernel_rfl) fun w2 hw2 => ?_
  simp only [List.take_succ_cons, List.take_zero, List.drop_succ_cons, List.drop_zero]
  have H2 : Hid (MixAt w2 gv cv V B a b c d) := Lib.hid (by rw [hw2]; exact H1.out.drew)
  have HM2 : Hid (Moves (fun g _ => g = gv) w w2) := Lib.hid (by rw [hw2]; exact HM1.out.trans_ (Moves.drew _ _) (fun _ _ _ h => h))
  clear hw2
  have vp := H2.out.v.word H2.out.lv H2.out.la
  obtain ⟨xp, hxp⟩ : ∃ z, V.getD a 0 = z := ⟨_, rfl⟩
  rw [hxp] at vp
  have HXp := Lib.hid hxp
  clear hxp
  have vq := H2.out.v.word H2.out.lv H2.out.lb
  obtain ⟨xq, hxq⟩ : ∃ z, V.getD b 0 = z := ⟨_, rfl⟩
  rw [hxq] at vq
  have HXq := Lib.hid hxq
  clear hxq
  have fz := H2.out.v.frozenAt a
  still_step; still_step; still_step; still_step; still_step; still_step; still_step; still_step; still_step; still_step; still_step; still_step; still_step; still_step
  with_reducible refine wpStill_nil ?_
  go_upto_region 6 with fail
  have H3 := Lib.hid (H2.out.set a (((xp + xq) % 4294967296 + x) % 4294967296))
  have HM3 := Lib.hid (HM2.out.trans_ (Moves.setCell (X := fun g _ => g = gv) w2 ⟨gv, a, none⟩ (.int .u32 (((xp + xq) % 4294967296 + x) % 4294967296)) (fun _ _ => rfl)) (fun _ _ _ h => h))
  obtain ⟨V1, hV1⟩ : ∃ l_, V.set a (((xp + xq) % 4294967296 + x) % 4294967296) = l_ := ⟨_, rfl⟩
  have HEV1 : Hid (V1 = V.set a (add32 (V.getD a 0) (add32 (V.getD b 0) x))) := Lib.hid (by rw [← hV1]; rw [HXp.out, HXq.out, add32_three])
  rw [hV1] at H3
  obtain ⟨w3, hw3⟩ : ∃ z, w2.setCell ⟨gv, a, none⟩ (.int .u32 (((xp + xq) % 4294967296 + x) % 4294967296)) = z := ⟨_, rfl⟩
  rw [hw3] at H3 HM3 ⊢
  clear hV1 hw3 vp vq
  clear fz HXp HXq
  with_reducible refine wp_still_tail 13 (by kernel_rfl) (by kernel_rfl) fun w4 hw2 => ?_
  simp only [List.take_succ_cons, List.take_zero, List.drop_succ_cons, List.drop_zero]
  have H4 : Hid (MixAt w4 gv cv V1 B a b c d) := Lib.hid (by rw [hw2]; exact H3.out.drew)
  have HM4 : Hid (Moves (fun g _ => g = gv) w w4) := Lib.hid (by rw [hw2]; exact HM3.out.trans_ (Moves.drew _ _) (fun _ _ _ h => h))
  clear hw2
  have vp := H4.out.v.word H4.out.lv H4.out.ld
  obtain ⟨xp, hxp⟩ : ∃ z, V1.getD d 0 = z := ⟨_, rfl⟩
  rw [hxp] at vp
  have HXp := Lib.hid hxp
  clear hxp
  have vq := H4.out.v.word H4.out.lv H4.out.la
  obtain ⟨xq, hxq⟩ : ∃ z, V1.getD a 0 = z := ⟨_, rfl⟩
  rw [hxq] at vq
  have HXq := Lib.hid hxq
  clear hxq
  have fz := H4.out.v.frozenAt d
  have hrng := bits_rng .xor xp xq
  obtain ⟨xr, hxr⟩ : ∃ z, bits .xor .u32 xp xq = z := ⟨_, rfl⟩
  rw [hxr] at hrng
  have HC := Lib.hid (fun W => rright_16 xr hrng.1 hrng.2 W)
  still_step; still_step; still_step; still_step; still_step; still_step; still_step; still_step; still_step; still_step; still_step
  have HXr := Lib.hid hxr
  still_call (HC.out w4)
  still_step
  with_reducible refine wpStill_nil ?_
  clear hxr
  go_upto_region 7 with fail
  have H5 := Lib.hid (H4.out.set d (rotF xr 16))
  have HM5 := Lib.hid (HM4.out.trans_ (Moves.setCell (X := fun g _ => g = gv) w4 ⟨gv, d, none⟩ (.int .u32 (rotF xr 16)) (fun _ _ => rfl)) (fun _ _ _ h => h))
  obtain ⟨V2, hV2⟩ : ∃ l_, V1.set d (rotF xr 16) = l_ := ⟨_, rfl⟩
  have HEV2 : Hid (V2 = half2 V1 a d 16) := Lib.hid (by rw [← hV2]; simp only [half2]; rw [HXp.out, HXq.out, HXr.out])
  rw [hV2] at H5
  obtain ⟨w5, hw5⟩ : ∃ z, w4.setCell ⟨gv, d, none⟩ (.int .u32 (rotF xr 16)) = z := ⟨_, rfl⟩
  rw [hw5] at H5 HM5 ⊢
  clear hV2 hw5 vp vq
  clear fz hrng HXp HXq HXr HC
  with_reducible refine wp_still_tail 12 (by kernel_rfl) (by kernel_rfl) fun w6 hw2 => ?_
  simp only [List.take_succ_cons, List.take_zero, List.drop_succ_cons, List.drop_zero]
  have H6 : Hid (MixAt w6 gv cv V2 B a b c d) := Lib.hid (by rw [hw2]; exact H5.out.drew)
  have HM6 : Hid (Moves (fun g _ => g = gv) w w6) := Lib.hid (by rw [hw2]; exact HM5.out.trans_ (Moves.drew _ _) (fun _ _ _ h => h))
  clear hw2
  have vp := H6.out.v.word H6.out.lv H6.out.lc
  obtain ⟨xp, hxp⟩ : ∃ z, V2.getD c 0 = z := ⟨_, rfl⟩
  rw [hxp] at vp
  have HXp := Lib.hid hxp
  clear hxp
  have vq := H6.out.v.word H6.out.lv H6.out.ld
  obtain ⟨xq, hxq⟩ : ∃ z, V2.getD d 0 = z := ⟨_, rfl⟩
  rw [hxq] at vq
  have HXq := Lib.hid hxq
  clear hxq
  have fz := H6.out.v.frozenAt c
  still_step; still_step; still_step; still_step; still_step; still_step; still_step; still_step; still_step; still_step; still_step; still_step
  with_reducible refine wpStill_nil ?_
  go_upto_region 8 with fail
  have H7 := Lib.hid (H6.out.set c ((xp + xq) % 4294967296))
  have HM7 := Lib.hid (HM6.out.trans_ (Moves.setCell (X := fun g _ => g = gv) w6 ⟨gv, c, none⟩ (.int .u32 ((xp + xq) % 4294967296)) (fun _ _ => rfl)) (fun _ _ _ h => h))
  obtain ⟨V3, hV3⟩ : ∃ l_, V2.set c ((xp + xq) % 4294967296) = l_ := ⟨_, rfl⟩
  have HEV3 : Hid (V3 = half3 V2 c d) := Lib.hid (by rw [← hV3]; simp only [half3, add32]; rw [HXp.out, HXq.out])
  rw [hV3] at H7
  obtain ⟨w7, hw7⟩ : ∃ z, w6.setCell ⟨gv, c, none⟩ (.int .u32 ((xp + xq) % 4294967296)) = z := ⟨_, rfl⟩
  rw [hw7] at H7 HM7 ⊢
  clear hV3 hw7 vp vq
  clear fz HXp HXq
  with_reducible refine wp_still_tail 13 (by kernel_rfl) (by kernel_rfl) fun w8 hw2 => ?_
  simp only [List.take_succ_cons, List.take_zero, List.drop_succ_cons, List.drop_zero]
  have H8 : Hid (MixAt w8 gv cv V3 B a b c d) := Lib.hid (by rw [hw2]; exact H7.out.drew)
  have HM8 : Hid (Moves (fun g _ => g = gv) w w8) := Lib.hid (by rw [hw2]; exact HM7.out.trans_ (Moves.drew _ _) (fun _ _ _ h => h))
  clear hw2
  have vp := H8.out.v.word H8.out.lv H8.out.lb
  obtain ⟨xp, hxp⟩ : ∃ z, V3.getD b 0 = z := ⟨_, rfl⟩
  rw [hxp] at vp
  have HXp := Lib.hid hxp
  clear hxp
  have vq := H8.out.v.word H8.out.lv H8.out.lc
  obtain ⟨xq, hxq⟩ : ∃ z, V3.getD c 0 = z := ⟨_, rfl⟩
  rw [hxq] at vq
  have HXq := Lib.hid hxq
  clear hxq
  have fz := H8.out.v.frozenAt b
  have hrng := bits_rng .xor xp xq
  obtain ⟨xr, hxr⟩ : ∃ z, bits .xor .u32 xp xq = z := ⟨_, rfl⟩
  rw [hxr] at hrng
  have HC := Lib.hid (fun W => rright_12 xr hrng.1 hrng.2 W)
  still_step; still_step; still_step; still_step; still_step; still_step; still_step; still_step; still_step; still_step; still_step
  have HXr := Lib.hid hxr
  still_call (HC.out w8)
  still_step
  with_reducible refine wpStill_nil ?_
  clear hxr
  go_upto_region 9 with fail
  have H9 := Lib.hid (H8.out.set b (rotF xr 20))
  have HM9 := Lib.hid (HM8.out.trans_ (Moves.setCell (X := fun g _ => g = gv) w8 ⟨gv, b, none⟩ (.int .u32 (rotF xr 20)) (fun _ _ => rfl)) (fun _ _ _ h => h))
  obtain ⟨V4, hV4⟩ : ∃ l_, V3.set b (rotF xr 20) = l_ := ⟨_, rfl⟩
  have HEV4 : Hid (V4 = half2 V3 c b 20) := Lib.hid (by rw [← hV4]; simp only [half2]; rw [HXp.out, HXq.out, HXr.out])
  rw [hV4] at H9
  obtain ⟨w9, hw9⟩ : ∃ z, w8.setCell ⟨gv, b, none⟩ (.int .u32 (rotF xr 20)) = z := ⟨_, rfl⟩
  rw [hw9] at H9 HM9 ⊢
  clear hV4 hw9 vp vq
  clear fz hrng HXp HXq HXr HC
  with_reducible refine wp_still_tail 14 (by kernel_rfl) (by kernel_rfl) fun w10 hw2 => ?_
  simp only [List.take_succ_cons, List.take_zero, List.drop_succ_cons, List.drop_zero]
  have H10 : Hid (MixAt w10 gv cv V4 B a b c d) := Lib.hid (by rw [hw2]; exact H9.out.drew)
  have HM10 : Hid (Moves (fun g _ => g = gv) w w10) := Lib.hid (by rw [hw2]; exact HM9.out.trans_ (Moves.drew _ _) (fun _ _ _ h => h))
  clear hw2
  have vp := H10.out.v.word H10.out.lv H10.out.la
  obtain ⟨xp, hxp⟩ : ∃ z, V4.getD a 0 = z := ⟨_, rfl⟩
  rw [hxp] at vp
  have HXp := Lib.hid hxp
  clear hxp
  have vq := H10.out.v.word H10.out.lv H10.out.lb
  obtain ⟨xq, hxq⟩ : ∃ z, V4.getD b 0 = z := ⟨_, rfl⟩
  rw [hxq] at vq
  have HXq := Lib.hid hxq
  clear hxq
  have fz := H10.out.v.frozenAt a
  still_step; still_step; still_step; still_step; still_step; still_step; still_step; still_step; still_step; still_step; still_step; still_step; still_step; still_step
  with_reducible refine wpStill_nil ?_
  go_upto_region 10 with fail
  have H11 := Lib.hid (H10.out.set a (((xp + xq) % 4294967296 + y) % 4294967296))
  have HM11 := Lib.hid (HM10.out.trans_ (Moves.setCell (X := fun g _ => g = gv) w10 ⟨gv, a, none⟩ (.int .u32 (((xp + xq) % 4294967296 + y) % 4294967296)) (fun _ _ => rfl)) (fun _ _ _ h => h))
  obtain ⟨V5, hV5⟩ : ∃ l_, V4.set a (((xp + xq) % 4294967296 + y) % 4294967296) = l_ := ⟨_, rfl⟩
  have HEV5 : Hid (V5 = V4.set a (add32 (V4.getD a 0) (add32 (V4.getD b 0) y))) := Lib.hid (by rw [← hV5]; rw [HXp.out, HXq.out, add32_three])
  rw [hV5] at H11
  obtain ⟨w11, hw11⟩ : ∃ z, w10.setCell ⟨gv, a, none⟩ (.int .u32 (((xp + xq) % 4294967296 + y) % 4294967296)) = z := ⟨_, rfl⟩
  rw [hw11] at H11 HM11 ⊢
  clear hV5 hw11 vp vq
  clear fz HXp HXq
  with_reducible refine wp_still_tail 13 (by kernel_rfl) (by kernel_rfl) fun w12 hw2 => ?_
  simp only [List.take_succ_cons, List.take_zero, List.drop_succ_cons, List.drop_zero]
  have H12 : Hid (MixAt w12 gv cv V5 B a b c d) := Lib.hid (by rw [hw2]; exact H11.out.drew)
  have HM12 : Hid (Moves (fun g _ => g = gv) w w12) := Lib.hid (by rw [hw2]; exact HM11.out.trans_ (Moves.drew _ _) (fun _ _ _ h => h))
  clear hw2
  have vp := H12.out.v.word H12.out.lv H12.out.ld
  obtain ⟨xp, hxp⟩ : ∃ z, V5.getD d 0 = z := ⟨_, rfl⟩
  rw [hxp] at vp
  have HXp := Lib.hid hxp
  clear hxp
  have vq := H12.out.v.word H12.out.lv H12.out.la
  obtain ⟨xq, hxq⟩ : ∃ z, V5.getD a 0 = z := ⟨_, rfl⟩
  rw [hxq] at vq
  have HXq := Lib.hid hxq
  clear hxq
  have fz := H12.out.v.frozenAt d
  have hrng := bits_rng .xor xp xq
  obtain ⟨xr, hxr⟩ : ∃ z, bits .xor .u32 xp xq = z := ⟨_, rfl⟩
  rw [hxr] at hrng
  have HC := Lib.hid (fun W => rright_8 xr hrng.1 hrng.2 W)
  still_step; still_step; still_step; still_step; still_step; still_step; still_step; still_step; still_step; still_step; still_step
  have HXr := Lib.hid hxr
  still_call (HC.out w12)
  still_step
  with_reducible refine wpStill_nil ?_
  clear hxr
  go_upto_region 11 with fail
  have H13 := Lib.hid (H12.out.set d (rotF xr 24))
  have HM13 := Lib.hid (HM12.out.trans_ (Moves.setCell (X := fun g _ => g = gv) w12 ⟨gv, d, none⟩ (.int .u32 (rotF xr 24)) (fun _ _ => rfl)) (fun _ _ _ h => h))
  obtain ⟨V6, hV6⟩ : ∃ l_, V5.set d (rotF xr 24) = l_ := ⟨_, rfl⟩
  have HEV6 : Hid (V6 = half2 V5 a d 24) := Lib.hid (by rw [← hV6]; simp only [half2]; rw [HXp.out, HXq.out, HXr.out])
  rw [hV6] at H13
  obtain ⟨w13, hw13⟩ : ∃ z, w12.setCell ⟨gv, d, none⟩ (.int .u32 (rotF xr 24)) = z := ⟨_, rfl⟩
  rw [hw13] at H13 HM13 ⊢
  clear hV6 hw13 vp vq
  clear fz hrng HXp HXq HXr HC
  with_reducible refine wp_still_tail 12 (by kernel_rfl) (by kernel_rfl) fun w14 hw2 => ?_
  simp only [List.take_succ_cons, List.take_zero, List.drop_succ_cons, List.drop_zero]
  have H14 : Hid (MixAt w14 gv cv V6 B a b c d) := Lib.hid (by rw [hw2]; exact H13.out.drew)
  have HM14 : Hid (Moves (fun g _ => g = gv) w w14) := Lib.hid (by rw [hw2]; exact HM13.out.trans_ (Moves.drew _ _) (fun _ _ _ h => h))
  clear hw2
  have vp := H14.out.v.word H14.out.lv H14.out.lc
  obtain ⟨xp, hxp⟩ : ∃ z, V6.getD c 0 = z := ⟨_, rfl⟩
  rw [hxp] at vp
  have HXp := Lib.hid hxp
  clear hxp
  have vq := H14.out.v.word H14.out.lv H14.out.ld
  obtain ⟨xq, hxq⟩ : ∃ z, V6.getD d 0 = z := ⟨_, rfl⟩
  rw [hxq] at vq
  have HXq := Lib.hid hxq
  clear hxq
  have fz := H14.out.v.frozenAt c
  still_step; still_step; still_step; still_step; still_step; still_step; still_step; still_step; still_step; still_step; still_step; still_step
  with_reducible refine wpStill_nil ?_
  go_upto_region 12 with fail
  have H15 := Lib.hid (H14.out.set c ((xp + xq) % 4294967296))
  have HM15 := Lib.hid (HM14.out.trans_ (Moves.setCell (X := fun g _ => g = gv) w14 ⟨gv, c, none⟩ (.int .u32 ((xp + xq) % 4294967296)) (fun _ _ => rfl)) (fun _ _ _ h => h))
  obtain ⟨V7, hV7⟩ : ∃ l_, V6.set c ((xp + xq) % 4294967296) = l_ := ⟨_, rfl⟩
  have HEV7 : Hid (V7 = half3 V6 c d) := Lib.hid (by rw [← hV7]; simp only [half3, add32]; rw [HXp.out, HXq.out])
  rw [hV7] at H15
  obtain ⟨w15, hw15⟩ : ∃ z, w14.setCell ⟨gv, c, none⟩ (.int .u32 ((xp + xq) % 4294967296)) = z := ⟨_, rfl⟩
  rw [hw15] at H15 HM15 ⊢
  clear hV7 hw15 vp vq
  clear fz HXp HXq
  with_reducible refine wp_still_tail 13 (by kernel_rfl) (by kernel_rfl) fun w16 hw2 => ?_
  simp only [List.take_succ_cons, List.take_zero, List.drop_succ_cons, List.drop_zero]
  have H16 : Hid (MixAt w16 gv cv V7 B a b c d) := Lib.hid (by rw [hw2]; exact H15.out.drew)
  have HM16 : Hid (Moves (fun g _ => g = gv) w w16) := Lib.hid (by rw [hw2]; exact HM15.out.trans_ (Moves.drew _ _) (fun _ _ _ h => h))
  clear hw2
  have vp := H16.out.v.word H16.out.lv H16.out.lb
  obtain ⟨xp, hxp⟩ : ∃ z, V7.getD b 0 = z := ⟨_, rfl⟩
  rw [hxp] at vp
  have HXp := Lib.hid hxp
  clear hxp
  have vq := H16.out.v.word H16.out.lv H16.out.lc
  obtain ⟨xq, hxq⟩ : ∃ z, V7.getD c 0 = z := ⟨_, rfl⟩
  rw [hxq] at vq
  have HXq := Lib.hid hxq
  clear hxq
  have fz := H16.out.v.frozenAt b
  have hrng := bits_rng .xor xp xq
  obtain ⟨xr, hxr⟩ : ∃ z, bits .xor .u32 xp xq = z := ⟨_, rfl⟩
  rw [hxr] at hrng
  have HC := Lib.hid (fun W => rright_7 xr hrng.1 hrng.2 W)
  still_step; still_step; still_step; still_step; still_step; still_step; still_step; still_step; still_step; still_step; still_step
  have HXr := Lib.hid hxr
  still_call (HC.out w16)
  still_step
  with_reducible refine wpStill_nil ?_
  clear hxr
  go_wp2_with fail
  have H17 := Lib.hid (H16.out.set b (rotF xr 25))
  have HM17 := Lib.hid (HM16.out.trans_ (Moves.setCell (X := fun g _ => g = gv) w16 ⟨gv, b, none⟩ (.int .u32 (rotF xr 25)) (fun _ _ => rfl)) (fun _ _ _ h => h))
  obtain ⟨V8, hV8⟩ : ∃ l_, V7.set b (rotF xr 25) = l_ := ⟨_, rfl⟩
  have HEV8 : Hid (V8 = half2 V7 c b 25) := Lib.hid (by rw [← hV8]; simp only [half2]; rw [HXp.out, HXq.out, HXr.out])
  rw [hV8] at H17
  obtain ⟨w17, hw17⟩ : ∃ z, w16.setCell ⟨gv, b, none⟩ (.int .u32 (rotF xr 25)) = z := ⟨_, rfl⟩
  rw [hw17] at H17 HM17 ⊢
  clear hV8 hw17 vp vq
  clear fz hrng HXp HXq HXr HC
  have hfin : V8 = mixF V a b c d x y := by rw [HEV8.out, HEV7.out, HEV6.out, HEV5.out, HEV4.out, HEV3.out, HEV2.out, HEV1.out]; rfl
  go_end0
  exact ⟨rfl, by rw [← hfin]; exact H17.out.v, HM17.out⟩
end Go.Proofs.YtdeikpifflkabaaDoor

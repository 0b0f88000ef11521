/- What this text proves: the contract of the closure half of blake's block: what it leaves of the sixteen words. The conditions are how the words and the captured numbers lie in memory. -/
import Derived.Test.YtdeikpifflkabaaDoorBlakeOps
import Derived.Deep.QuietTactic
import Derived.BigQuiet
import Derived.RegionTactic
import Derived.ChangeAlike
namespace Go.Proofs.YtdeikpifflkabaaDoor
open Go.RowKit
set_option linter.unusedVariables false
set_option linter.unusedSimpArgs false

def u32s (l : List Int) : List Value := l.map fun x => .int .u32 x
def figs : List Nat := [0,1,2,3,4,5,6,7,8,9,10,11,12,13,14,15,14,10,4,8,9,15,13,6,1,12,0,2,11,7,5,3,11,8,12,0,5,2,15,13,10,14,3,6,7,1,9,4,7,9,3,1,13,12,11,14,2,6,5,10,4,0,15,8,9,0,5,7,2,4,10,15,14,1,11,12,6,8,3,13,2,12,6,10,0,11,8,3,4,13,7,5,15,14,1,9,12,5,1,15,14,13,4,10,0,7,6,3,9,2,8,11,13,11,7,14,12,1,3,9,5,0,15,4,8,6,2,10,6,15,14,9,11,3,0,8,12,2,13,7,1,4,10,5,10,2,8,4,7,6,1,5,15,11,9,14,3,12,13,0]

/-- The figures' text. -/
def ordS : List UInt8 := figs.map fun n => if n < 10 then 48 + n.toUInt8 else 87 + n.toUInt8
def ordC (k : Nat) : Int := ((ordS.getD k 0).toNat : Int)
theorem figs_len : figs.length = 160 := by decide +kernel
theorem fig_val : ∀ k, k < 160 → ordC k = if figs.getD k 0 < 10 then 48 + (figs.getD k 0 : Int) else 87 + (figs.getD k 0 : Int) := by decide +kernel
theorem fig_lt : ∀ k, k < 160 → figs.getD k 0 < 16 := by decide +kernel
theorem figure_at (k : Nat) (hk : k < 160) (w : World) : Calls Tryd.prog 68 #[.int .u8 (ordC k)] w fun e w' => e = .returned (.int .i64 (figs.getD k 0 : Nat)) ∧ w' = w := by
  have hv := fig_val k hk
  have hl := fig_lt k hk
  obtain ⟨f, hf⟩ : ∃ f, figs.getD k 0 = f := ⟨_, rfl⟩
  obtain ⟨c, hc⟩ : ∃ c, ordC k = c := ⟨_, rfl⟩
  rw [hf] at hv hl ⊢
  rw [hc] at hv ⊢
  clear hc hf hk
  by_cases h : f < 10
  · rw [if_pos h] at hv
    subst hv
    have e1 : decide (97 ≤ (48 : Int) + f) = false := by simp; omega
    go_enter Tryd.func68, Tryd.ntmps68
    go_wp2
    go_ret
    exact ⟨ret_int (by omega), rfl⟩
  · rw [if_neg h] at hv
    subst hv
    have e1 : decide (97 ≤ (87 : Int) + f) = true := by simp; omega
    go_enter Tryd.func68, Tryd.ntmps68
    go_wp2
    go_ret
    exact ⟨ret_int (by omega), rfl⟩
def ordB : ByteArray := ⟨ordS.toArray⟩
theorem run_order (k : Nat) (hk : k < 160) (w : World) : (Instr.index 9 (.string ordB) (.int .i64 k)).run Tryd.prog w = .ok (.int .u8 (ordC k)) w := by
  have h1 : ordB.size = 160 := by decide +kernel
  have h2 : (k : Int) < 160 := by omega
  have h3 : ordB[k]? = ordS[k]? := by
    rw [getElem?_pos ordB k (by omega), List.getElem?_eq_getElem (by rw [show ordS.length = 160 by decide +kernel]; exact hk)]
    rfl
  have h4 : ordS[k]? = some (ordS.getD k 0) := by
    rw [List.getD_eq_getElem?_getD, List.getElem?_eq_getElem (by rw [show ordS.length = 160 by decide +kernel]; exact hk)]
    rfl
  have h5 : (0 : Int) ≤ k := by omega
  unfold Instr.index
  obtain ⟨u, hu⟩ : ∃ u, ordS.getD k 0 = u := ⟨_, rfl⟩
  have hc : ordC k = (u.toNat : Int) := by rw [ordC, hu]
  rw [hu] at h4
  rw [h4] at h3
  rw [hc]
  clear h4 hu hc
  obtain ⟨B, hB⟩ : ∃ B, ordB = B := ⟨_, rfl⟩
  rw [hB] at h1 h3 ⊢
  clear hB
  simp [asIntOf, h1, h3, h5]

/-- Cells of words. -/
theorem u32s_get {V : List Int} {n i : Nat} (h : V.length = n) (hi : i < n) : (u32s V)[i]? = some (.int .u32 (V.getD i 0)) := by
  rw [u32s, List.getElem?_map, List.getD_eq_getElem?_getD, List.getElem?_eq_getElem (by omega)]
  rfl
theorem Bk.word {w : World} {g : Nat} {t : TypeId} {V : List Int} {n i : Nat} (hb : Bk w g t (u32s V).toArray) (h : V.length = n) (hi : i < n) : w.cell? ⟨g, i, none⟩ = some (.int .u32 (V.getD i 0)) := by
  rw [hb.cell, List.getElem?_toArray, u32s_get h hi]
theorem u32s_set (V : List Int) (i : Nat) (x : Int) : (u32s V).toArray.setIfInBounds i (.int .u32 x) = (u32s (V.set i x)).toArray := by
  apply Array.ext'
  rw [Array.toList_setIfInBounds]
  simp [u32s, List.map_set]
theorem Bk.set_word {w : World} {g : Nat} {t : TypeId} {V : List Int} (hb : Bk w g t (u32s V).toArray) (i : Nat) (x : Int) : Bk (w.setCell ⟨g, i, none⟩ (.int .u32 x)) g t (u32s (V.set i x)).toArray := by
  rw [← u32s_set]
  exact hb.set_ i _
theorem wrap_u32_rng (n : Int) : 0 ≤ IntKind.u32.wrap n ∧ IntKind.u32.wrap n < 4294967296 := by
  have h : IntKind.u32.wrap n = n % 4294967296 := by rfl
  rw [h]
  omega
theorem bits_rng (op : BinOp) (a b : Int) : 0 ≤ bits op .u32 a b ∧ bits op .u32 a b < 4294967296 := by
  unfold bits
  exact wrap_u32_rng _
def add32 (a b : Int) : Int := (a + b) % 4294967296
/-- What the closure half leaves of the words. s, r: how far it turns them left. -/
def half1 (V M : List Int) (a b k : Nat) : List Int := V.set a (add32 (V.getD a 0) (add32 (V.getD b 0) (M.getD (figs.getD k 0) 0)))
def half2 (V : List Int) (a d s : Nat) : List Int := V.set d (rotF (bits .xor .u32 (V.getD d 0) (V.getD a 0)) s)
def half3 (V : List Int) (c d : Nat) : List Int := V.set c (add32 (V.getD c 0) (V.getD d 0))
def halfF (V M : List Int) (a b c d k s r : Nat) : List Int := half2 (half3 (half2 (half1 V M a b k) a d s) c d) c b r
/-- How the words and the captured numbers lie. -/
structure HalfAt (w : World) (gv gm ga gb gc gd : Nat) (V M : List Int) (a b c d : Nat) : Prop where
  v : Bk w gv 108 (u32s V).toArray
  m : Bk w gm 108 (u32s M).toArray
  ka : Bk w ga 3 #[.int .i64 a]
  kb : Bk w gb 3 #[.int .i64 b]
  kc : Bk w gc 3 #[.int .i64 c]
  kd : Bk w gd 3 #[.int .i64 d]
  lv : V.length = 16
  lm : M.length = 16
  la : a < 16
  lb : b < 16
  lc : c < 16
  ld : d < 16
  ne : gv ≠ gm
theorem HalfAt.drew {w : World} {gv gm ga gb gc gd : Nat} {V M : List Int} {a b c d : Nat} (h : HalfAt w gv gm ga gb gc gd V M a b c d) : HalfAt w.drew gv gm ga gb gc gd V M a b c d :=
  ⟨h.v.drew, h.m.drew, h.ka.drew, h.kb.drew, h.kc.drew, h.kd.drew, h.lv, h.lm, h.la, h.lb, h.lc, h.ld, h.ne⟩
theorem HalfAt.set {w : World} {gv gm ga gb gc gd : Nat} {V M : List Int} {a b c d : Nat} (h : HalfAt w gv gm ga gb gc gd V M a b c d) (i : Nat) (x : Int) : HalfAt (w.setCell ⟨gv, i, none⟩ (.int .u32 x)) gv gm ga gb gc gd (V.set i x) M a b c d :=
  have f : ∀ (g n : Nat), Bk w g 3 #[.int .i64 (n : Int)] → g ≠ gv := fun g n hb => Bk.ne_ hb h.v (by decide)
  ⟨h.v.set_word i x, h.m.far (p := ⟨gv, i, none⟩) (Ne.symm h.ne) _, h.ka.far (p := ⟨gv, i, none⟩) (f _ _ h.ka) _, h.kb.far (p := ⟨gv, i, none⟩) (f _ _ h.kb) _, h.kc.far (p := ⟨gv, i, none⟩) (f _ _ h.kc) _, h.kd.far (p := ⟨gv, i, none⟩) (f _ _ h.kd) _, by rw [List.length_set]; exact h.lv, h.lm, h.la, h.lb, h.lc, h.ld, h.ne⟩

theorem run_index_str {P : Program} {a : Act} {o : Oper} (T : TypeId) (x ix : Operand) (ho : o.op = .index T x ix) {S v i : Value} (hx : a.eval x = S) (hi : a.eval ix = i) {w : World} (hr : (Instr.index T S i).run P w = .ok v w) : (execOp a.eval o).run P w = .ok (.value v) w := by
  unfold execOp
  simp only [ho, hx, hi, Sem.run_bind, hr, Result.andThen_ok, Sem.run_pure]
theorem neg_run (k : Int) (h : -9223372036854775808 < k) (h' : k ≤ 9223372036854775807) : True := trivial
set_option maxRecDepth 100000 in
set_option maxHeartbeats 4000000 in
theorem half_16 (V M : List Int) (a b c d k : Nat) (gv gm ga gb gc gd : Nat) (w : World) (hk : k < 160) (h : HalfAt w gv gm ga gb gc gd V M a b c d) :
    Calls Tryd.prog 67 #[.int .i64 k, .int .i64 16, .int .i64 12, .pointer (some ⟨gv, 0, none⟩), .pointer (some ⟨ga, 0, none⟩), .pointer (some ⟨gb, 0, none⟩), .pointer (some ⟨gm, 0, none⟩), .pointer (some ⟨gd, 0, none⟩), .pointer (some ⟨gc, 0, none⟩)] w fun e w' => e = .returned (.tuple #[]) ∧ Bk w' gv 108 (u32s (halfF V M a b c d k 16 20)).toArray ∧ Moves (fun g _ => g = gv) w w' := by
  have HH := Lib.hid h
  have HK := Lib.hid hk
  have la : (a : Int) < 16 := by have := h.la; omega
  have lb : (b : Int) < 16 := by have := h.lb; omega
  have lc : (c : Int) < 16 := by have := h.lc; omega
  have ld : (d : Int) < 16 := by have := h.ld; omega
  clear h
  go_enter Tryd.func67, Tryd.ntmps67
  go_wp2_with fail
  with_reducible refine wp_still_tail 14 (by kernel_rfl) (by kernel_rfl) fun w2 hw2 => ?_
  simp only [List.take_succ_cons, List.take_zero, List.drop_succ_cons, List.drop_zero]
  have H2 : Hid (HalfAt w2 gv gm ga gb gc gd V M a b c d) := Lib.hid (by rw [hw2]; exact HH.out.drew)
  have HM2 : Hid (Moves (fun g _ => g = gv) w w2) := Lib.hid (by rw [hw2]; exact Moves.drew _ _)
  clear hw2
  have ca := H2.out.ka.cell 0
  have cb := H2.out.kb.cell 0
  have va := H2.out.v.word H2.out.lv H2.out.la
  obtain ⟨xa, hxa⟩ : ∃ x, V.getD a 0 = x := ⟨_, rfl⟩
  rw [hxa] at va
  have HXa := Lib.hid hxa
  clear hxa
  have vb := H2.out.v.word H2.out.lv H2.out.lb
  obtain ⟨xb, hxb⟩ : ∃ x, V.getD b 0 = x := ⟨_, rfl⟩
  rw [hxb] at vb
  have HXb := Lib.hid hxb
  clear hxb
  have hf16 := fig_lt k hk
  have vf := H2.out.m.word H2.out.lm hf16
  have HC := Lib.hid (fun W => figure_at k HK.out W)
  obtain ⟨xf, hxf⟩ : ∃ x, M.getD (figs.getD k 0) 0 = x := ⟨_, rfl⟩
  rw [hxf] at vf
  have HXf := Lib.hid hxf
  clear hxf
  obtain ⟨f, hf⟩ : ∃ f, figs.getD k 0 = f := ⟨_, rfl⟩
  rw [hf] at HC hf16 vf
  have fz := H2.out.v.frozen a
  have lf : (f : Int) < 16 := by omega
  clear hf hf16 hk
  still_step; still_step; still_step; still_step; still_step; still_step; still_step
  (with_reducible apply wpStill_val); (case hw => rfl); (case hr => exact run_index_str 9 _ _ (by rfl) (S := .string ordB) (by kernel_rfl) (i := .int .i64 k) (by rfl) (run_order k HK.out w2))
  still_call (HC.out w2)
  still_step; still_step; still_step; still_step; still_step
  with_reducible refine wpStill_nil ?_
  go_upto_region 1 with fail
  have H3 := Lib.hid (H2.out.set a ((xa + (xb + xf) % 4294967296) % 4294967296))
  have HM3 := Lib.hid (HM2.out.trans_ (Moves.setCell (X := fun g _ => g = gv) w2 ⟨gv, a, none⟩ (.int .u32 ((xa + (xb + xf) % 4294967296) % 4294967296)) (fun _ _ => rfl)) (fun _ _ _ h => h))
  obtain ⟨V1, hV1⟩ : ∃ l, V.set a ((xa + (xb + xf) % 4294967296) % 4294967296) = l := ⟨_, rfl⟩
  have HEV1 : Hid (V1 = half1 V M a b k) := Lib.hid (by rw [← hV1]; simp only [half1, half2, half3, add32]; rw [HXa.out, HXb.out, HXf.out])
  rw [hV1] at H3
  obtain ⟨w3, hw3⟩ : ∃ x, w2.setCell ⟨gv, a, none⟩ (.int .u32 ((xa + (xb + xf) % 4294967296) % 4294967296)) = x := ⟨_, rfl⟩
  rw [hw3] at H3 HM3 ⊢
  clear hV1 hw3 va vb vf
  clear fz lf ca cb
  with_reducible refine wp_still_tail 12 (by kernel_rfl) (by kernel_rfl) fun w4 hw2 => ?_
  simp only [List.take_succ_cons, List.take_zero, List.drop_succ_cons, List.drop_zero]
  have H4 : Hid (HalfAt w4 gv gm ga gb gc gd V1 M a b c d) := Lib.hid (by rw [hw2]; exact H3.out.drew)
  have HM4 : Hid (Moves (fun g _ => g = gv) w w4) := Lib.hid (by rw [hw2]; exact HM3.out.trans_ (Moves.drew _ _) (fun _ _ _ h => h))
  clear hw2
  have cd := H4.out.kd.cell 0
  have ca := H4.out.ka.cell 0
  have vp := H4.out.v.word H4.out.lv H4.out.ld
  obtain ⟨xp, hxp⟩ : ∃ x, V1.getD d 0 = x := ⟨_, rfl⟩
  rw [hxp] at vp
  have HXp := Lib.hid hxp
  clear hxp
  have vq := H4.out.v.word H4.out.lv H4.out.la
  obtain ⟨xq, hxq⟩ : ∃ x, V1.getD a 0 = x := ⟨_, rfl⟩
  rw [hxq] at vq
  have HXq := Lib.hid hxq
  clear hxq
  have fz := H4.out.v.frozen d
  have hrng := bits_rng .xor xp xq
  obtain ⟨xr, hxr⟩ : ∃ x, bits .xor .u32 xp xq = x := ⟨_, rfl⟩
  rw [hxr] at hrng
  have HC1 := Lib.hid (fun W => rot_16 xr hrng.1 hrng.2 W)
  still_step; still_step; still_step; still_step; still_step; still_step; still_step; still_step; still_step; still_step
  have hxr0 := hxr
  have HXr := Lib.hid hxr
  still_call ((HC1.out w4).mono fun e w9 h9 => ⟨h9.1, h9.2.symm⟩)
  still_step
  with_reducible refine wpStill_nil ?_
  clear hxr hxr0
  go_upto_region 2 with fail
  have H5 := Lib.hid (H4.out.set d (rotF xr 16))
  have HM5 := Lib.hid (HM4.out.trans_ (Moves.setCell (X := fun g _ => g = gv) w4 ⟨gv, d, none⟩ (.int .u32 (rotF xr 16)) (fun _ _ => rfl)) (fun _ _ _ h => h))
  obtain ⟨V2, hV2⟩ : ∃ l, V1.set d (rotF xr 16) = l := ⟨_, rfl⟩
  have HEV2 : Hid (V2 = half2 V1 a d 16) := Lib.hid (by rw [← hV2]; simp only [half1, half2, half3, add32]; rw [HXp.out, HXq.out, HXr.out])
  rw [hV2] at H5
  obtain ⟨w5, hw5⟩ : ∃ x, w4.setCell ⟨gv, d, none⟩ (.int .u32 (rotF xr 16)) = x := ⟨_, rfl⟩
  rw [hw5] at H5 HM5 ⊢
  clear hV2 hw5 vp vq
  clear fz cd ca hrng HXp HXq HXr HC1
  with_reducible refine wp_still_tail 8 (by kernel_rfl) (by kernel_rfl) fun w6 hw2 => ?_
  simp only [List.take_succ_cons, List.take_zero, List.drop_succ_cons, List.drop_zero]
  have H6 : Hid (HalfAt w6 gv gm ga gb gc gd V2 M a b c d) := Lib.hid (by rw [hw2]; exact H5.out.drew)
  have HM6 : Hid (Moves (fun g _ => g = gv) w w6) := Lib.hid (by rw [hw2]; exact HM5.out.trans_ (Moves.drew _ _) (fun _ _ _ h => h))
  clear hw2
  have cc := H6.out.kc.cell 0
  have cd := H6.out.kd.cell 0
  have vp := H6.out.v.word H6.out.lv H6.out.lc
  obtain ⟨xp, hxp⟩ : ∃ x, V2.getD c 0 = x := ⟨_, rfl⟩
  rw [hxp] at vp
  have HXp := Lib.hid hxp
  clear hxp
  have vq := H6.out.v.word H6.out.lv H6.out.ld
  obtain ⟨xq, hxq⟩ : ∃ x, V2.getD d 0 = x := ⟨_, rfl⟩
  rw [hxq] at vq
  have HXq := Lib.hid hxq
  clear hxq
  have fz := H6.out.v.frozen c
  still_step; still_step; still_step; still_step; still_step; still_step; still_step; still_step
  with_reducible refine wpStill_nil ?_
  go_upto_region 3 with fail
  have H7 := Lib.hid (H6.out.set c ((xp + xq) % 4294967296))
  have HM7 := Lib.hid (HM6.out.trans_ (Moves.setCell (X := fun g _ => g = gv) w6 ⟨gv, c, none⟩ (.int .u32 ((xp + xq) % 4294967296)) (fun _ _ => rfl)) (fun _ _ _ h => h))
  obtain ⟨V3, hV3⟩ : ∃ l, V2.set c ((xp + xq) % 4294967296) = l := ⟨_, rfl⟩
  have HEV3 : Hid (V3 = half3 V2 c d) := Lib.hid (by rw [← hV3]; simp only [half1, half2, half3, add32]; rw [HXp.out, HXq.out])
  rw [hV3] at H7
  obtain ⟨w7, hw7⟩ : ∃ x, w6.setCell ⟨gv, c, none⟩ (.int .u32 ((xp + xq) % 4294967296)) = x := ⟨_, rfl⟩
  rw [hw7] at H7 HM7 ⊢
  clear hV3 hw7 vp vq
  clear fz cc cd HXp HXq
  with_reducible refine wp_still_tail 12 (by kernel_rfl) (by kernel_rfl) fun w8 hw2 => ?_
  simp only [List.take_succ_cons, List.take_zero, List.drop_succ_cons, List.drop_zero]
  have H8 : Hid (HalfAt w8 gv gm ga gb gc gd V3 M a b c d) := Lib.hid (by rw [hw2]; exact H7.out.drew)
  have HM8 : Hid (Moves (fun g _ => g = gv) w w8) := Lib.hid (by rw [hw2]; exact HM7.out.trans_ (Moves.drew _ _) (fun _ _ _ h => h))
  clear hw2
  have cb := H8.out.kb.cell 0
  have cc := H8.out.kc.cell 0
  have vp := H8.out.v.word H8.out.lv H8.out.lb
  obtain ⟨xp, hxp⟩ : ∃ x, V3.getD b 0 = x := ⟨_, rfl⟩
  rw [hxp] at vp
  have HXp := Lib.hid hxp
  clear hxp
  have vq := H8.out.v.word H8.out.lv H8.out.lc
  obtain ⟨xq, hxq⟩ : ∃ x, V3.getD c 0 = x := ⟨_, rfl⟩
  rw [hxq] at vq
  have HXq := Lib.hid hxq
  clear hxq
  have fz := H8.out.v.frozen b
  have hrng := bits_rng .xor xp xq
  obtain ⟨xr, hxr⟩ : ∃ x, bits .xor .u32 xp xq = x := ⟨_, rfl⟩
  rw [hxr] at hrng
  have HC3 := Lib.hid (fun W => rot_12 xr hrng.1 hrng.2 W)
  still_step; still_step; still_step; still_step; still_step; still_step; still_step; still_step; still_step; still_step
  have hxr0 := hxr
  have HXr := Lib.hid hxr
  still_call ((HC3.out w8).mono fun e w9 h9 => ⟨h9.1, h9.2.symm⟩)
  still_step
  with_reducible refine wpStill_nil ?_
  clear hxr hxr0
  go_wp2_with fail
  have H9 := Lib.hid (H8.out.set b (rotF xr 20))
  have HM9 := Lib.hid (HM8.out.trans_ (Moves.setCell (X := fun g _ => g = gv) w8 ⟨gv, b, none⟩ (.int .u32 (rotF xr 20)) (fun _ _ => rfl)) (fun _ _ _ h => h))
  obtain ⟨V4, hV4⟩ : ∃ l, V3.set b (rotF xr 20) = l := ⟨_, rfl⟩
  have HEV4 : Hid (V4 = half2 V3 c b 20) := Lib.hid (by rw [← hV4]; simp only [half1, half2, half3, add32]; rw [HXp.out, HXq.out, HXr.out])
  rw [hV4] at H9
  obtain ⟨w9, hw9⟩ : ∃ x, w8.setCell ⟨gv, b, none⟩ (.int .u32 (rotF xr 20)) = x := ⟨_, rfl⟩
  rw [hw9] at H9 HM9 ⊢
  clear hV4 hw9 vp vq
  clear fz cb cc hrng HXp HXq HXr HC3
  have hfin : V4 = halfF V M a b c d k 16 20 := by rw [HEV4.out, HEV3.out, HEV2.out, HEV1.out]; rfl
  go_end0
  exact ⟨rfl, by rw [← hfin]; exact H9.out.v, HM9.out⟩
set_option maxRecDepth 100000 in
set_option maxHeartbeats 4000000 in
theorem half_8 (V M : List Int) (a b c d k : Nat) (gv gm ga gb gc gd : Nat) (w : World) (hk : k < 160) (h : HalfAt w gv gm ga gb gc gd V M a b c d) :
    Calls Tryd.prog 67 #[.int .i64 k, .int .i64 8, .int .i64 7, .pointer (some ⟨gv, 0, none⟩), .pointer (some ⟨ga, 0, none⟩), .pointer (some ⟨gb, 0, none⟩), .pointer (some ⟨gm, 0, none⟩), .pointer (some ⟨gd, 0, none⟩), .pointer (some ⟨gc, 0, none⟩)] w fun e w' => e = .returned (.tuple #[]) ∧ Bk w' gv 108 (u32s (halfF V M a b c d k 24 25)).toArray ∧ Moves (fun g _ => g = gv) w w' := by
  have HH := Lib.hid h
  have HK := Lib.hid hk
  have la : (a : Int) < 16 := by have := h.la; omega
  have lb : (b : Int) < 16 := by have := h.lb; omega
  have lc : (c : Int) < 16 := by have := h.lc; omega
  have ld : (d : Int) < 16 := by have := h.ld; omega
  clear h
  go_enter Tryd.func67, Tryd.ntmps67
  go_wp2_with fail
  with_reducible refine wp_still_tail 14 (by kernel_rfl) (by kernel_rfl) fun w2 hw2 => ?_
  simp only [List.take_succ_cons, List.take_zero, List.drop_succ_cons, List.drop_zero]
  have H2 : Hid (HalfAt w2 gv gm ga gb gc gd V M a b c d) := Lib.hid (by rw [hw2]; exact HH.out.drew)
  have HM2 : Hid (Moves (fun g _ => g = gv) w w2) := Lib.hid (by rw [hw2]; exact Moves.drew _ _)
  clear hw2
  have ca := H2.out.ka.cell 0
  have cb := H2.out.kb.cell 0
  have va := H2.out.v.word H2.out.lv H2.out.la
  obtain ⟨xa, hxa⟩ : ∃ x, V.getD a 0 = x := ⟨_, rfl⟩
  rw [hxa] at va
  have HXa := Lib.hid hxa
  clear hxa
  have vb := H2.out.v.word H2.out.lv H2.out.lb
  obtain ⟨xb, hxb⟩ : ∃ x, V.getD b 0 = x := ⟨_, rfl⟩
  rw [hxb] at vb
  have HXb := Lib.hid hxb
  clear hxb
  have hf16 := fig_lt k hk
  have vf := H2.out.m.word H2.out.lm hf16
  have HC := Lib.hid (fun W => figure_at k HK.out W)
  obtain ⟨xf, hxf⟩ : ∃ x, M.getD (figs.getD k 0) 0 = x := ⟨_, rfl⟩
  rw [hxf] at vf
  have HXf := Lib.hid hxf
  clear hxf
  obtain ⟨f, hf⟩ : ∃ f, figs.getD k 0 = f := ⟨_, rfl⟩
  rw [hf] at HC hf16 vf
  have fz := H2.out.v.frozen a
  have lf : (f : Int) < 16 := by omega
  clear hf hf16 hk
  still_step; still_step; still_step; still_step; still_step; still_step; still_step
  (with_reducible apply wpStill_val); (case hw => rfl); (case hr => exact run_index_str 9 _ _ (by rfl) (S := .string ordB) (by kernel_rfl) (i := .int .i64 k) (by rfl) (run_order k HK.out w2))
  still_call (HC.out w2)
  still_step; still_step; still_step; still_step; still_step
  with_reducible refine wpStill_nil ?_
  go_upto_region 1 with fail
  have H3 := Lib.hid (H2.out.set a ((xa + (xb + xf) % 4294967296) % 4294967296))
  have HM3 := Lib.hid (HM2.out.trans_ (Moves.setCell (X := fun g _ => g = gv) w2 ⟨gv, a, none⟩ (.int .u32 ((xa + (xb + xf) % 4294967296) % 4294967296)) (fun _ _ => rfl)) (fun _ _ _ h => h))
  obtain ⟨V1, hV1⟩ : ∃ l, V.set a ((xa + (xb + xf) % 4294967296) % 4294967296) = l := ⟨_, rfl⟩
  have HEV1 : Hid (V1 = half1 V M a b k) := Lib.hid (by rw [← hV1]; simp only [half1, half2, half3, add32]; rw [HXa.out, HXb.out, HXf.out])
  rw [hV1] at H3
  obtain ⟨w3, hw3⟩ : ∃ x, w2.setCell ⟨gv, a, none⟩ (.int .u32 ((xa + (xb + xf) % 4294967296) % 4294967296)) = x := ⟨_, rfl⟩
  rw [hw3] at H3 HM3 ⊢
  clear hV1 hw3 va vb vf
  clear fz lf ca cb
  with_reducible refine wp_still_tail 12 (by kernel_rfl) (by kernel_rfl) fun w4 hw2 => ?_
  simp only [List.take_succ_cons, List.take_zero, List.drop_succ_cons, List.drop_zero]
  have H4 : Hid (HalfAt w4 gv gm ga gb gc gd V1 M a b c d) := Lib.hid (by rw [hw2]; exact H3.out.drew)
  have HM4 : Hid (Moves (fun g _ => g = gv) w w4) := Lib.hid (by rw [hw2]; exact HM3.out.trans_ (Moves.drew _ _) (fun _ _ _ h => h))
  clear hw2
  have cd := H4.out.kd.cell 0
  have ca := H4.out.ka.cell 0
  have vp := H4.out.v.word H4.out.lv H4.out.ld
  obtain ⟨xp, hxp⟩ : ∃ x, V1.getD d 0 = x := ⟨_, rfl⟩
  rw [hxp] at vp
  have HXp := Lib.hid hxp
  clear hxp
  have vq := H4.out.v.word H4.out.lv H4.out.la
  obtain ⟨xq, hxq⟩ : ∃ x, V1.getD a 0 = x := ⟨_, rfl⟩
  rw [hxq] at vq
  have HXq := Lib.hid hxq
  clear hxq
  have fz := H4.out.v.frozen d
  have hrng := bits_rng .xor xp xq
  obtain ⟨xr, hxr⟩ : ∃ x, bits .xor .u32 xp xq = x := ⟨_, rfl⟩
  rw [hxr] at hrng
  have HC1 := Lib.hid (fun W => rot_8 xr hrng.1 hrng.2 W)
  still_step; still_step; still_step; still_step; still_step; still_step; still_step; still_step; still_step; still_step
  have hxr0 := hxr
  have HXr := Lib.hid hxr
  still_call ((HC1.out w4).mono fun e w9 h9 => ⟨h9.1, h9.2.symm⟩)
  still_step
  with_reducible refine wpStill_nil ?_
  clear hxr hxr0
  go_upto_region 2 with fail
  have H5 := Lib.hid (H4.out.set d (rotF xr 24))
  have HM5 := Lib.hid (HM4.out.trans_ (Moves.setCell (X := fun g _ => g = gv) w4 ⟨gv, d, none⟩ (.int .u32 (rotF xr 24)) (fun _ _ => rfl)) (fun _ _ _ h => h))
  obtain ⟨V2, hV2⟩ : ∃ l, V1.set d (rotF xr 24) = l := ⟨_, rfl⟩
  have HEV2 : Hid (V2 = half2 V1 a d 24) := Lib.hid (by rw [← hV2]; simp only [half1, half2, half3, add32]; rw [HXp.out, HXq.out, HXr.out])
  rw [hV2] at H5
  obtain ⟨w5, hw5⟩ : ∃ x, w4.setCell ⟨gv, d, none⟩ (.int .u32 (rotF xr 24)) = x := ⟨_, rfl⟩
  rw [hw5] at H5 HM5 ⊢
  clear hV2 hw5 vp vq
  clear fz cd ca hrng HXp HXq HXr HC1
  with_reducible refine wp_still_tail 8 (by kernel_rfl) (by kernel_rfl) fun w6 hw2 => ?_
  simp only [List.take_succ_cons, List.take_zero, List.drop_succ_cons, List.drop_zero]
  have H6 : Hid (HalfAt w6 gv gm ga gb gc gd V2 M a b c d) := Lib.hid (by rw [hw2]; exact H5.out.drew)
  have HM6 : Hid (Moves (fun g _ => g = gv) w w6) := Lib.hid (by rw [hw2]; exact HM5.out.trans_ (Moves.drew _ _) (fun _ _ _ h => h))
  clear hw2
  have cc := H6.out.kc.cell 0
  have cd := H6.out.kd.cell 0
  have vp := H6.out.v.word H6.out.lv H6.out.lc
  obtain ⟨xp, hxp⟩ : ∃ x, V2.getD c 0 = x := ⟨_, rfl⟩
  rw [hxp] at vp
  have HXp := Lib.hid hxp
  clear hxp
  have vq := H6.out.v.word H6.out.lv H6.out.ld
  obtain ⟨xq, hxq⟩ : ∃ x, V2.getD d 0 = x := ⟨_, rfl⟩
  rw [hxq] at vq
  have HXq := Lib.hid hxq
  clear hxq
  have fz := H6.out.v.frozen c
  still_step; still_step; still_step; still_step; still_step; still_step; still_step; still_step
  with_reducible refine wpStill_nil ?_
  go_upto_region 3 with fail
  have H7 := Lib.hid (H6.out.set c ((xp + xq) % 4294967296))
  have HM7 := Lib.hid (HM6.out.trans_ (Moves.setCell (X := fun g _ => g = gv) w6 ⟨gv, c, none⟩ (.int .u32 ((xp + xq) % 4294967296)) (fun _ _ => rfl)) (fun _ _ _ h => h))
  obtain ⟨V3, hV3⟩ : ∃ l, V2.set c ((xp + xq) % 4294967296) = l := ⟨_, rfl⟩
  have HEV3 : Hid (V3 = half3 V2 c d) := Lib.hid (by rw [← hV3]; simp only [half1, half2, half3, add32]; rw [HXp.out, HXq.out])
  rw [hV3] at H7
  obtain ⟨w7, hw7⟩ : ∃ x, w6.setCell ⟨gv, c, none⟩ (.int .u32 ((xp + xq) % 4294967296)) = x := ⟨_, rfl⟩
  rw [hw7] at H7 HM7 ⊢
  clear hV3 hw7 vp vq
  clear fz cc cd HXp HXq
  with_reducible refine wp_still_tail 12 (by kernel_rfl) (by kernel_rfl) fun w8 hw2 => ?_
  simp only [List.take_succ_cons, List.take_zero, List.drop_succ_cons, List.drop_zero]
  have H8 : Hid (HalfAt w8 gv gm ga gb gc gd V3 M a b c d) := Lib.hid (by rw [hw2]; exact H7.out.drew)
  have HM8 : Hid (Moves (fun g _ => g = gv) w w8) := Lib.hid (by rw [hw2]; exact HM7.out.trans_ (Moves.drew _ _) (fun _ _ _ h => h))
  clear hw2
  have cb := H8.out.kb.cell 0
  have cc := H8.out.kc.cell 0
  have vp := H8.out.v.word H8.out.lv H8.out.lb
  obtain ⟨xp, hxp⟩ : ∃ x, V3.getD b 0 = x := ⟨_, rfl⟩
  rw [hxp] at vp
  have HXp := Lib.hid hxp
  clear hxp
  have vq := H8.out.v.word H8.out.lv H8.out.lc
  obtain ⟨xq, hxq⟩ : ∃ x, V3.getD c 0 = x := ⟨_, rfl⟩
  rw [hxq] at vq
  have HXq := Lib.hid hxq
  clear hxq
  have fz := H8.out.v.frozen b
  have hrng := bits_rng .xor xp xq
  obtain ⟨xr, hxr⟩ : ∃ x, bits .xor .u32 xp xq = x := ⟨_, rfl⟩
  rw [hxr] at hrng
  have HC3 := Lib.hid (fun W => rot_7 xr hrng.1 hrng.2 W)
  still_step; still_step; still_step; still_step; still_step; still_step; still_step; still_step; still_step; still_step
  have hxr0 := hxr
  have HXr := Lib.hid hxr
  still_call ((HC3.out w8).mono fun e w9 h9 => ⟨h9.1, h9.2.symm⟩)
  still_step
  with_reducible refine wpStill_nil ?_
  clear hxr hxr0
  go_wp2_with fail
  have H9 := Lib.hid (H8.out.set b (rotF xr 25))
  have HM9 := Lib.hid (HM8.out.trans_ (Moves.setCell (X := fun g _ => g = gv) w8 ⟨gv, b, none⟩ (.int .u32 (rotF xr 25)) (fun _ _ => rfl)) (fun _ _ _ h => h))
  obtain ⟨V4, hV4⟩ : ∃ l, V3.set b (rotF xr 25) = l := ⟨_, rfl⟩
  have HEV4 : Hid (V4 = half2 V3 c b 25) := Lib.hid (by rw [← hV4]; simp only [half1, half2, half3, add32]; rw [HXp.out, HXq.out, HXr.out])
  rw [hV4] at H9
  obtain ⟨w9, hw9⟩ : ∃ x, w8.setCell ⟨gv, b, none⟩ (.int .u32 (rotF xr 25)) = x := ⟨_, rfl⟩
  rw [hw9] at H9 HM9 ⊢
  clear hV4 hw9 vp vq
  clear fz cb cc hrng HXp HXq HXr HC3
  have hfin : V4 = halfF V M a b c d k 24 25 := by rw [HEV4.out, HEV3.out, HEV2.out, HEV1.out]; rfl
  go_end0
  exact ⟨rfl, by rw [← hfin]; exact H9.out.v, HM9.out⟩
end Go.Proofs.YtdeikpifflkabaaDoor

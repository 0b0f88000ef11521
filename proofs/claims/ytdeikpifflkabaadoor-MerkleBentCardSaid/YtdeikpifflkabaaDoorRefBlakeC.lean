/- What this text proves: the contract of the reference's block: what it gives is what a digest's block gives. The conditions are how the words and bytes lie in memory. -/
import Derived.Test.YtdeikpifflkabaaDoorRefBlakeP
import Derived.Test.YtdeikpifflkabaaDoorMoveTail
import Derived.Deep.AppendLies
namespace Go.Proofs.YtdeikpifflkabaaDoor
open Go.RowKit
set_option linter.unusedVariables false
set_option linter.unusedSimpArgs false

theorem u32_info : (Tryd.prog.info? 81).map (fun i => (i.zero, i.size, i.bytes)) = some (some (.int .u32 0), 1, 4) := by kernel_rfl
theorem u32s_take (l : List Int) (k : Nat) : u32s (l.take k) = (u32s l).take k := by simp [u32s, List.map_take]
theorem u32s_app (a b : List Int) : u32s (a ++ b) = u32s a ++ u32s b := by simp [u32s]
theorem sl_words {w : World} {B n : Nat} {A : Option Addr} {l : List Int} (h : Sl w B 1 A n (u32s l)) (hn : 0 < n) (hl : l.length = n) : ∃ b off, A = some ⟨b, off, none⟩ ∧ b < B ∧ ∀ i, i < n → w.cell? ⟨b, off + i, none⟩ = some (.int .u32 (l.getD i 0)) := by
  obtain ⟨b, off, e, hb, hc⟩ := h.2 hn
  exact ⟨b, off, e, hb, fun i hi => hc i _ (u32s_get hl hi)⟩

def placesC : Array Value := #[.int .i64 0, .int .i64 4, .int .i64 8, .int .i64 12, .int .i64 1, .int .i64 5, .int .i64 9, .int .i64 13, .int .i64 2, .int .i64 6, .int .i64 10, .int .i64 14, .int .i64 3, .int .i64 7, .int .i64 11, .int .i64 15, .int .i64 0, .int .i64 5, .int .i64 10, .int .i64 15, .int .i64 1, .int .i64 6, .int .i64 11, .int .i64 12, .int .i64 2, .int .i64 7, .int .i64 8, .int .i64 13, .int .i64 3, .int .i64 4, .int .i64 9, .int .i64 14]
theorem placesC_eq : #[.int .i64 0, .int .i64 4, .int .i64 8, .int .i64 12, .int .i64 1, .int .i64 5, .int .i64 9, .int .i64 13, .int .i64 2, .int .i64 6, .int .i64 10, .int .i64 14, .int .i64 3, .int .i64 7, .int .i64 11, .int .i64 15, .int .i64 0, .int .i64 5, .int .i64 10, .int .i64 15, .int .i64 1, .int .i64 6, .int .i64 11, .int .i64 12, .int .i64 2, .int .i64 7, .int .i64 8, .int .i64 13, .int .i64 3, .int .i64 4, .int .i64 9, .int .i64 14] = placesC := rfl
theorem places_seg {W : World} {gp i a b c d : Nat} (hb : Bk W gp 103 placesC) (h : placesL[i]? = some (a, b, c, d)) : W.rangeAt gp (i * 4) [.int .i64 a, .int .i64 b, .int .i64 c, .int .i64 d] := by
  have hi : i < 8 := by have := (List.getElem?_eq_some_iff.1 h).1; simpa [placesL] using this
  have hc : i = 0 ∨ i = 1 ∨ i = 2 ∨ i = 3 ∨ i = 4 ∨ i = 5 ∨ i = 6 ∨ i = 7 := by omega
  intro j v hv
  rw [hb.cell]
  rcases hc with rfl | rfl | rfl | rfl | rfl | rfl | rfl | rfl <;> (simp [placesL] at h; obtain ⟨rfl, rfl, rfl, rfl⟩ := h; match j, hv with
    | 0, hv => exact hv
    | 1, hv => exact hv
    | 2, hv => exact hv
    | 3, hv => exact hv)
theorem hi_four : (Tryd.prog.info? 103).map (·.size) = some 4 := by kernel_rfl
theorem own_mono {w : World} {base base' : Nat} {e : TypeId} {size : Nat} {v : Value} {n : Nat} {xs : List Value} (h : w.ownsRow base e size v n xs) (hb : base' ≤ base) : w.ownsRow base' e size v n xs := by
  refine ⟨h.1, ?_⟩
  rcases h.2 with hn | ⟨g, cap, cur, hv, hg, rest⟩
  · exact .inl hn
  · exact .inr ⟨g, cap, cur, hv, Nat.le_trans hb hg, rest⟩
theorem below_far {B : Nat} {w w' : World} (h : Below B w w') (g i : Nat) (v : Value) (hg : B ≤ g) : Below B w (w'.setCell ⟨g, i, none⟩ v) := h.setCell hg _

set_option maxRecDepth 100000 in
set_option maxHeartbeats 8000000 in
theorem rblock_any (h : List Int) (b : List UInt8) (done : Int) (last : Bool) (Ah Ab : Option Addr) (ch cb : Nat) (w : World) (hh : h.length = 8) (hb : b.length = 64) (hd0 : 0 ≤ done) (hd1 : done < 18446744073709551616)
    (hAh : Sl w w.heap.size 1 Ah 8 (u32s h)) (hAb : Sl w w.heap.size 1 Ab 64 (bts b)) :
    Calls Tryd.prog 50 #[.slice Ah 8 ch, .slice Ab 64 cb, .int .u64 done, .bool last] w fun e w' => ∃ v, e = .returned v ∧ w'.ownsRow w.heap.size 81 1 v 8 (u32s (compress h b done last)) ∧ Below w.heap.size w w' := by
  have HSh := Lib.hid hAh
  have HSb := Lib.hid hAb
  have Hhl := Lib.hid hh
  have Hbl := Lib.hid hb
  obtain ⟨i0, hi, hz0, hz1, hz2⟩ := info_parts u32_info
  clear hAh hAb hh hb
  go_enter Tryd.func50, Tryd.ntmps50
  go_wp2_with fail
  obtain ⟨gt, hgt⟩ : ∃ x, w.heap.size = x := ⟨_, rfl⟩
  have HGT := Lib.hid hgt
  clear hgt
  go_loopw [9, 10] (fun v i wr => ∃ (k : Nat), k ≤ 16 ∧ i = .int .i64 k ∧ wr.ownsRow gt 81 1 v k (u32s ((wordsF b).take k)) ∧ Below gt w wr) (fun _ i _ => 16 - (intOf i).toNat)
  case atStart => exact ⟨0, by omega, rfl, World.ownsRow_nil _ _ _ _, Below.refl _ _⟩
  case round =>
    obtain ⟨k, hk, rfl, ho, hbel⟩ := hrel
    have O := Lib.hid ho
    have L := Lib.hid hbel
    clear ho hbel
    by_cases hlt : k < 16
    · have hlt' : (k : Int) < 16 := by omega
      obtain ⟨bb, ob, rfl, hbb, hbc⟩ := HSb.out.2 (by omega)
      have hlb := Hbl.out
      obtain ⟨c0, hc0⟩ : ∃ c, b[4 * k]? = some c := ⟨_, List.getElem?_eq_getElem (by omega)⟩
      obtain ⟨c1, hc1⟩ : ∃ c, b[4 * k + 1]? = some c := ⟨_, List.getElem?_eq_getElem (by omega)⟩
      obtain ⟨c2, hc2⟩ : ∃ c, b[4 * k + 2]? = some c := ⟨_, List.getElem?_eq_getElem (by omega)⟩
      obtain ⟨c3, hc3⟩ : ∃ c, b[4 * k + 3]? = some c := ⟨_, List.getElem?_eq_getElem (by omega)⟩
      have hword := wordsF_at k 16 b c0 c1 c2 c3 (by omega) hc0 hc1 hc2 hc3
      have hcat : Hid (u32s ((wordsF b).take k) ++ [.int .u32 (w4 c0 c1 c2 c3)] = u32s ((wordsF b).take (k + 1))) := Lib.hid (by rw [take_at hword, u32s_app]; rfl)
      have hce : ∀ j c, b[j]? = some c → wr.cell? ⟨bb, ob + j, none⟩ = some (.int .u8 (c.toNat : Int)) := fun j c hj => (L.out.cell (p := ⟨bb, ob + j, none⟩) (by rw [← HGT.out]; exact hbb)).trans (hbc j _ (bts_at hj))
      have d0 := hce _ _ hc0
      have d1 := hce _ _ hc1
      have d2 := hce _ _ hc2
      have d3 := hce _ _ hc3
      have b0 := c0.toNat_lt
      have b1 := c1.toNat_lt
      have b2 := c2.toNat_lt
      have b3 := c3.toNat_lt
      rw [w4] at hcat
      clear hword hce hbc hlb hc0 hc1 hc2 hc3
      obtain ⟨x0, hx0⟩ : ∃ x, c0.toNat = x := ⟨_, rfl⟩
      obtain ⟨x1, hx1⟩ : ∃ x, c1.toNat = x := ⟨_, rfl⟩
      obtain ⟨x2, hx2⟩ : ∃ x, c2.toNat = x := ⟨_, rfl⟩
      obtain ⟨x3, hx3⟩ : ∃ x, c3.toNat = x := ⟨_, rfl⟩
      rw [hx0, hx1, hx2, hx3] at hcat
      rw [hx0] at d0 b0
      rw [hx1] at d1 b1
      rw [hx2] at d2 b2
      rw [hx3] at d3 b3
      clear hx0 hx1 hx2 hx3
      obtain ⟨j0, hj0⟩ : ∃ x, 4 * k = x := ⟨_, rfl⟩
      rw [hj0] at d0 d1 d2 d3
      obtain ⟨j1, hj1⟩ : ∃ x, j0 + 1 = x := ⟨_, rfl⟩
      obtain ⟨j2, hj2⟩ : ∃ x, j0 + 2 = x := ⟨_, rfl⟩
      obtain ⟨j3, hj3⟩ : ∃ x, j0 + 3 = x := ⟨_, rfl⟩
      rw [hj1] at d1
      rw [hj2] at d2
      rw [hj3] at d3
      have hm0 : 4 * (k : Int) = (j0 : Int) := by omega
      have hm1 : (j0 : Int) + 1 = (j1 : Int) := by omega
      have hm2 : (j0 : Int) + 2 = (j2 : Int) := by omega
      have hm3 : (j0 : Int) + 3 = (j3 : Int) := by omega
      have hl0 : (j0 : Int) < 64 := by omega
      have hl1 : (j1 : Int) < 64 := by omega
      have hl2 : (j2 : Int) < 64 := by omega
      have hl3 : (j3 : Int) < 64 := by omega
      have hw0 : IntKind.i64.wrap (j0 : Int) = (j0 : Int) := IntWalk.i64_in _ (by omega)
      have hw1 : IntKind.i64.wrap (j1 : Int) = (j1 : Int) := IntWalk.i64_in _ (by omega)
      have hw2 : IntKind.i64.wrap (j2 : Int) = (j2 : Int) := IntWalk.i64_in _ (by omega)
      have hw3 : IntKind.i64.wrap (j3 : Int) = (j3 : Int) := IntWalk.i64_in _ (by omega)
      clear hj1 hj2 hj3
      clear hj0
      go_upto_region 5 with fail
      have hsz := L.out.size
      rw [HGT.out] at hsz
      obtain ⟨y1, hy1⟩ : ∃ y : Int, (x1 : Int) * 256 = y := ⟨_, rfl⟩
      obtain ⟨y2, hy2⟩ : ∃ y : Int, (x2 : Int) * 65536 = y := ⟨_, rfl⟩
      obtain ⟨y3, hy3⟩ : ∃ y : Int, (x3 : Int) * 16777216 = y := ⟨_, rfl⟩
      obtain ⟨z1, hz1'⟩ : ∃ z : Int, (x0 : Int) + y1 = z := ⟨_, rfl⟩
      obtain ⟨z2, hz2'⟩ : ∃ z : Int, z1 + y2 = z := ⟨_, rfl⟩
      obtain ⟨z3, hz3'⟩ : ∃ z : Int, z2 + y3 = z := ⟨_, rfl⟩
      have hzz : ((x0 + x1 * 256 + x2 * 65536 + x3 * 16777216 : Nat) : Int) = z3 := by omega
      rw [hzz] at hcat
      have wv : ∀ x : Int, 0 ≤ x → x < 4294967296 → IntKind.u32.wrap x = x := fun x h0 h1 => by
        have : IntKind.u32.wrap x = x % 4294967296 := by rfl
        omega
      have wx0 := wv x0 (by omega) (by omega)
      have wx1 := wv x1 (by omega) (by omega)
      have wx2 := wv x2 (by omega) (by omega)
      have wx3 := wv x3 (by omega) (by omega)
      have wy1 := wv y1 (by omega) (by omega)
      have wy2 := wv y2 (by omega) (by omega)
      have wy3 := wv y3 (by omega) (by omega)
      have wz1 := wv z1 (by omega) (by omega)
      have wz2 := wv z2 (by omega) (by omega)
      have wz3 := wv z3 (by omega) (by omega)
      clear wv hzz
      with_reducible refine wp_move_tail 34 (by kernel_rfl) (.tmp 9) (by rfl) (by rfl) (by kernel_rfl) fun K w2 hK hw2 => ?_
      simp only [List.take_succ_cons, List.take_zero, List.drop_succ_cons, List.drop_zero]
      have O1 : Hid (w2.ownsRow gt 81 1 u9 k (u32s ((wordsF b).take k))) := Lib.hid (by rw [hw2]; exact O.out.drew)
      have L1 : Hid (Below gt w w2) := Lib.hid (by rw [hw2]; exact L.out.drew)
      have hsz2 := L1.out.size
      rw [HGT.out] at hsz2
      rw [show wr.cell? _ = w2.cell? _ from by rw [hw2]; rfl] at d0 d1 d2 d3
      clear hw2 O L
      still_step; still_step; still_step; still_step; still_step; still_step; still_step; still_step; still_step; still_step; still_step; still_step; still_step; still_step; still_step; still_step; still_step; still_step; still_step; still_step; still_step; still_step; still_step; still_step; still_step; still_step; still_step; still_step; still_step; still_step; still_step; still_step; still_step; still_step
      with_reducible refine wpStill_nil ?_
      have C1 := Lib.hid (World.news_of_block (cs := #[.int .u32 z3]) (t := 81) (fr := (0, 0)) (heap_alloc_new w2 _))
      go_wp2_with (refine wpList_append_lies (w := w2.alloc (.cells #[.int .u32 z3] 81)) (by rfl) _ _ 80 (by rfl) gt 81 i0 _ 1 4 Tryd.underlying80 hi hz0 hz1 hz2 rfl (by omega) u9 k (u32s ((wordsF b).take k)) (by rfl) (O1.out.alloc _) ⟨w2.heap.size, 0, none⟩ 1 1 [.int .u32 z3] (by rfl) (by rfl) (by exact C1.out) (by simp [Value.oneCell']) (by omega) (by unfold maxLen; omega) (by omega) (by simp; omega) _ (by rfl) ?_; intro gg cap w3 hown2 hgrow hat hlt_)
      have L2 : Hid (Below gt w w3) := Lib.hid ((L1.out.alloc hsz2 _).grown hgrow (by simp; omega) (fun k hk => (own_cells O1.out hk).1))
      have O2 : Hid (w3.ownsRow gt 81 1 (.slice (some ⟨gg, 0, none⟩) (k + 1) cap) (k + 1) (u32s ((wordsF b).take (k + 1)))) := Lib.hid (by rw [← hcat.out]; exact hown2)
      clear hown2 hgrow hat hlt_ O1 L1 C1
      go_roundw
      case rel => exact ⟨k + 1, by omega, by go_num, O2.out, L2.out⟩
      case measure => simp [intOf]; omega
    · obtain rfl : k = 16 := by omega
      obtain ⟨wa, rfl⟩ : ∃ x, x = wr := ⟨_, rfl⟩
      have hwl : (wordsF b).length = 16 := wordsF_len 16 b (by have := Hbl.out; omega)
      have HML : Hid (mload b 0 mzero = wordsF b) := Lib.hid (mload_64 b Hbl.out)
      have ho := O.out
      rw [List.take_of_length_le (by omega)] at ho
      obtain ⟨M, hM⟩ : ∃ M, wordsF b = M := ⟨_, rfl⟩
      rw [hM] at ho hwl HML
      obtain ⟨gm, cm, rfl, hgm, hgm2⟩ := ho.form (by omega)
      have OM := Lib.hid ho
      have HW := Lib.hid hwl
      have HM16 : Hid (∀ x ∈ M, 0 ≤ x ∧ x < 4294967296) := Lib.hid (by rw [← hM]; exact wordsF_rng b)
      clear ho hM hwl O
      obtain ⟨bh, oh, rfl, hbh, hhc⟩ := sl_words HSh.out (by omega) Hhl.out
      have hsz := L.out.size
      rw [HGT.out] at hsz hbh
      have HHC : Hid (∀ i, i < 8 → wa.cell? ⟨bh, oh + i, none⟩ = some (.int .u32 (h.getD i 0))) := Lib.hid (fun i hi => (L.out.cell (p := ⟨bh, oh + i, none⟩) (show bh < gt by omega)).trans (hhc i hi))
      clear hhc
      obtain ⟨g2, hg2⟩ : ∃ x, wa.heap.size = x := ⟨_, rfl⟩
      have HG2 := Lib.hid hg2
      rw [hg2] at hgm2 hsz
      clear hg2
      go_upto_region 6 with fail
      have O6 := Lib.hid (World.ownsRow_made (base := g2) (e := 81) (size := 1) wa #[] 0 (Nat.le_of_eq HG2.out.symm) (by unfold maxLen; omega) (by simp))
      have L6 : Hid (Below g2 wa (wa.alloc (.cells #[] 81))) := Lib.hid (by rw [← HG2.out]; (first | assumption | (repeat (first | exact Below.refl _ _ | assumption | apply Below.drew | apply below_drewN | (refine Below.setCell ?_ (by (try simp) <;> omega) _) | (refine Below.alloc ?_ (by (try simp) <;> omega) _)))))
      have S6 : Hid (Sl (wa.alloc (.cells #[] 81)) (wa.alloc (.cells #[] 81)).heap.size 1 (some ⟨bh, oh, none⟩) 8 (u32s h)) := Lib.hid (by
        refine ⟨by rw [u32s_len]; exact Hhl.out, fun _ => ⟨bh, oh, rfl, by simp; have := HG2.out; omega, fun j u hu => ?_⟩⟩
        have hj : j < 8 := by have := (List.getElem?_eq_some_iff.1 hu).1; rw [u32s_len, Hhl.out] at this; exact this
        rw [u32s_get Hhl.out hj] at hu
        rw [L6.out.cell (p := ⟨bh, oh + j, none⟩) (show bh < g2 by omega), HHC.out j hj]; exact hu)
      rw [HG2.out] at O6
      go_upto_region 7 with (refine wpList_append_sl (wa.alloc (.cells #[] 81)) (by rfl) _ _ 80 (by rfl) g2 81 i0 _ 1 4 Tryd.underlying80 hi hz0 hz1 hz2 rfl (by omega) (.slice (some ⟨g2, 0, none⟩) 0 0) 0 [] (by exact congrArg (fun x => Value.slice (some ⟨x, 0, none⟩) 0 0) HG2.out) O6.out (some ⟨bh, oh, none⟩) 8 ch (u32s h) (by rfl) S6.out u32s_one (by unfold maxLen; omega) (by omega) (by simp; have := HG2.out; omega) ?_; intro v6 w6 ho_ hg_ hv_; have P6 := Lib.hid ho_; have L7 : Hid (Below g2 wa w6) := Lib.hid (L6.out.grown hg_ (by simp; have := HG2.out; omega) (fun k hk => (own_cells O6.out hk).1)); clear ho_ hg_ hv_)
      have HMC : Hid (∀ W, Below g2 wa W → ∀ i, i < 16 → W.cell? ⟨gm, i, none⟩ = some (.int .u32 (M.getD i 0))) := Lib.hid (fun W hb i hi => by
        rw [hb.cell (p := ⟨gm, i, none⟩) hgm2, OM.out.cellAt i (by omega), u32s_get HW.out hi])
      have HHW : Hid (∀ W, Below g2 wa W → ∀ i, i < 8 → W.cell? ⟨bh, oh + i, none⟩ = some (.int .u32 (h.getD i 0))) := Lib.hid (fun W hb i hi => by
        rw [hb.cell (p := ⟨bh, oh + i, none⟩) (show bh < g2 by omega), HHC.out i hi])
      rw [Nat.zero_add, List.nil_append] at P6
      clear O6 L6 S6 OM HHC
      go_wp2_with fail
      go_loopw [11, 12] (fun v i W => ∃ (k : Nat), k ≤ 8 ∧ i = .int .i64 k ∧ W.ownsRow g2 81 1 v (8 + k) (u32s (h ++ rootsL.take k)) ∧ Below g2 wa W) (fun _ i _ => 8 - (intOf i).toNat)
      case atStart => exact ⟨0, by omega, rfl, by simpa using P6.out, L7.out⟩
      case round =>
        obtain ⟨k, hk, rfl, ho, hbel⟩ := hrel
        have O := Lib.hid ho
        have L9 := Lib.hid hbel
        clear ho hbel P6 L7
        by_cases hlt : k < 8
        · have hlt' : (k : Int) < 8 := by omega
          have hsz9 := L9.out.size
          rw [HG2.out] at hsz9
          go_wp2_with fail
          with_reducible refine (rroot_any k hlt _).mono ?_
          rintro e w8 ⟨rfl, hb8⟩
          have O8 := Lib.hid (own_bl O.out hb8)
          have L8 : Hid (Below g2 wa w8) := Lib.hid (L9.out.trans (hb8.mono hsz9))
          have hsz8 := L8.out.size
          rw [HG2.out] at hsz8
          have hroot : Hid (u32s (h ++ rootsL.take k) ++ [.int .u32 (rootsL.getD k 0)] = u32s (h ++ rootsL.take (k + 1))) := Lib.hid (by
            have : rootsL[k]? = some (rootsL.getD k 0) := by rw [List.getD_eq_getElem?_getD, List.getElem?_eq_getElem (by simpa [rootsL] using hlt)]; rfl
            rw [take_at this]; simp [u32s])
          obtain ⟨z, hz⟩ : ∃ z, rootsL.getD k 0 = z := ⟨_, rfl⟩
          rw [hz] at hroot ⊢
          clear hb8 O L9 hz
          have C1 := Lib.hid (World.news_of_block (cs := #[.int .u32 z]) (t := 81) (fr := (0, 0)) (heap_alloc_new w8 _))
          go_wp2_with (refine wpList_append_lies (w := w8.alloc (.cells #[.int .u32 z] 81)) (by rfl) _ _ 80 (by rfl) g2 81 i0 _ 1 4 Tryd.underlying80 hi hz0 hz1 hz2 rfl (by omega) _ (8 + k) (u32s (h ++ rootsL.take k)) (by rfl) (O8.out.alloc _) ⟨w8.heap.size, 0, none⟩ 1 1 [.int .u32 z] (by rfl) (by rfl) (by exact C1.out) (by simp [Value.oneCell']) (by omega) (by unfold maxLen; omega) (by omega) (by simp; omega) _ (by rfl) ?_; intro gg cap w3 hown2 hgrow hat hlt_)
          have L2 : Hid (Below g2 wa w3) := Lib.hid ((L8.out.alloc hsz8 _).grown hgrow (by simp; omega) (fun k hk => (own_cells O8.out hk).1))
          have O2 : Hid (w3.ownsRow g2 81 1 (.slice (some ⟨gg, 0, none⟩) (8 + (k + 1)) cap) (8 + (k + 1)) (u32s (h ++ rootsL.take (k + 1)))) := Lib.hid (by rw [← hroot.out]; exact hown2)
          clear hown2 hgrow hat hlt_ C1
          go_roundw
          case rel => exact ⟨k + 1, by omega, by go_num, O2.out, L2.out⟩
          case measure => simp [intOf]; omega
        · obtain rfl : k = 8 := by omega
          obtain ⟨wb, rfl⟩ : ∃ x, x = wr := ⟨_, rfl⟩
          rw [show ((8 : Nat) : Int) = 8 from rfl]
          have ho := O.out
          rw [List.take_of_length_le (by simp [rootsL])] at ho
          obtain ⟨V0, hV0⟩ : ∃ x, h ++ rootsL = x := ⟨_, rfl⟩
          have lv0 : V0.length = 16 := by rw [← hV0]; simp [rootsL, Hhl.out]
          rw [hV0] at ho
          rw [show 8 + 8 = 16 from rfl] at ho
          obtain ⟨gv, cv, rfl, hgv, hgv2⟩ := ho.form (by omega)
          have HV0 := Lib.hid hV0
          have Ha : Hid (VAt wb gv cv V0 g2) := Lib.hid ho
          have LV0 := Lib.hid lv0
          clear hV0 ho O lv0
          have v12 := Ha.out.word LV0.out (i := 12) (by omega)
          have fz := Ha.out.frozenAt 12
          obtain ⟨x12, hx12⟩ : ∃ x, V0.getD 12 0 = x := ⟨_, rfl⟩
          rw [hx12] at v12
          go_upto_region 12 with fail
          have Hb := Lib.hid (Ha.out.set_ 12 (bits .xor .u32 x12 (done % 4294967296)))
          have LB := Lib.hid (below_far L9.out gv 12 (.int .u32 (bits .xor .u32 x12 (done % 4294967296))) hgv)
          obtain ⟨V1, hV1⟩ : ∃ x, V0.set 12 (bits .xor .u32 x12 (done % 4294967296)) = x := ⟨_, rfl⟩
          have LV1 : Hid (V1.length = 16) := Lib.hid (by rw [← hV1, List.length_set]; exact LV0.out)
          rw [hV1] at Hb
          rw [← hx12] at hV1
          have HV1 := Lib.hid hV1
          obtain ⟨wc, hwc⟩ : ∃ x, wb.setCell ⟨gv, 12, none⟩ (.int .u32 (bits .xor .u32 x12 (done % 4294967296))) = x := ⟨_, rfl⟩
          rw [hwc] at Hb LB ⊢
          clear hwc hV1 hx12 v12 fz Ha L9
          have v13 := Hb.out.word LV1.out (i := 13) (by omega)
          have fz := Hb.out.frozenAt 13
          obtain ⟨x13, hx13⟩ : ∃ x, V1.getD 13 0 = x := ⟨_, rfl⟩
          rw [hx13] at v13
          go_upto_region 13 with fail
          have Hc := Lib.hid (Hb.out.set_ 13 (bits .xor .u32 x13 (done / 4294967296)))
          have LC := Lib.hid (below_far LB.out gv 13 (.int .u32 (bits .xor .u32 x13 (done / 4294967296))) hgv)
          obtain ⟨V2, hV2⟩ : ∃ x, V1.set 13 (bits .xor .u32 x13 (done / 4294967296)) = x := ⟨_, rfl⟩
          have LV2 : Hid (V2.length = 16) := Lib.hid (by rw [← hV2, List.length_set]; exact LV1.out)
          rw [hV2] at Hc
          rw [← hx13] at hV2
          have HV2 := Lib.hid hV2
          obtain ⟨wd, hwd⟩ : ∃ x, wc.setCell ⟨gv, 13, none⟩ (.int .u32 (bits .xor .u32 x13 (done / 4294967296))) = x := ⟨_, rfl⟩
          rw [hwd] at Hc LC ⊢
          clear hwd hV2 hx13 v13 fz Hb LB
          have v14 := Hc.out.word LV2.out (i := 14) (by omega)
          have fz := Hc.out.frozenAt 14
          obtain ⟨x14, hx14⟩ : ∃ x, V2.getD 14 0 = x := ⟨_, rfl⟩
          rw [hx14] at v14
          have key : ∃ V3, vinit h done last = V3 := ⟨_, rfl⟩
          cases last
          case' false =>
            go_upto_region 15 with fail
            have Hd : Hid (VAt wd gv cv (vinit h done false) g2) := Lib.hid (by
              rw [show vinit h done false = V2 from by simp only [vinit]; rw [HV0.out, HV1.out, HV2.out]; rfl]
              exact Hc.out)
            have LD := LC
            have LV3 : Hid ((vinit h done false).length = 16) := Lib.hid (vinit_len Hhl.out)
            obtain ⟨we, hwe⟩ : ∃ x, wd = x := ⟨_, rfl⟩
            rw [hwe] at Hd LD ⊢
            obtain ⟨V3, hV3⟩ : ∃ V3, vinit h done false = V3 := ⟨_, rfl⟩
            have HCC : Hid (compress h b done false = houtF h (roundsF V3 M 10) 8) := Lib.hid (by rw [compress, hV3, HML.out])
            rw [hV3] at Hd LV3
            clear hwe hV3
          case' true =>
            go_upto_region 15 with fail
            have Hd : Hid (VAt (wd.setCell ⟨gv, 14, none⟩ (.int .u32 (bits .xor .u32 x14 4294967295))) gv cv (vinit h done true) g2) := Lib.hid (by
              rw [show vinit h done true = V2.set 14 (bits .xor .u32 x14 4294967295) from by rw [← hx14, bits_xor_comm]; simp only [vinit]; rw [HV0.out, HV1.out, HV2.out]; rfl]
              exact Hc.out.set_ 14 _)
            have LD := Lib.hid (below_far LC.out gv 14 (.int .u32 (bits .xor .u32 x14 4294967295)) hgv)
            have LV3 : Hid ((vinit h done true).length = 16) := Lib.hid (vinit_len Hhl.out)
            obtain ⟨we, hwe⟩ : ∃ x, wd.setCell ⟨gv, 14, none⟩ (.int .u32 (bits .xor .u32 x14 4294967295)) = x := ⟨_, rfl⟩
            rw [hwe] at Hd LD ⊢
            obtain ⟨V3, hV3⟩ : ∃ V3, vinit h done true = V3 := ⟨_, rfl⟩
            have HCC : Hid (compress h b done true = houtF h (roundsF V3 M 10) 8) := Lib.hid (by rw [compress, hV3, HML.out])
            rw [hV3] at Hd LV3
            clear hwe hV3
          all_goals
            clear key hx14 v14 fz Hc LC HV0 HV1 HV2
            go_upto_region 16 with fail
            have hszd := LD.out.size
            rw [HG2.out] at hszd
            have Bp : Hid (Bk (we.alloc (.cells placesC 103)) we.heap.size 103 placesC) := Lib.hid (Bk.new we 103 placesC)
            have Hp : Hid (VAt (we.alloc (.cells placesC 103)) gv cv V3 g2) := Lib.hid (Hd.out.alloc _)
            have LP : Hid (Below g2 wa (we.alloc (.cells placesC 103))) := Lib.hid (LD.out.alloc hszd _)
            obtain ⟨wp, hwp⟩ : ∃ x, we.alloc (.cells placesC 103) = x := ⟨_, rfl⟩
            rw [hwp] at Bp Hp LP
            rw [placesC_eq, hwp]
            obtain ⟨gp, hgp⟩ : ∃ x, we.heap.size = x := ⟨_, rfl⟩
            rw [hgp] at Bp ⊢
            have hgvp : gv < gp := by rw [← hgp]; exact (Hd.out.lt gv (by simp [Value.ownBlock])).2
            rw [hgp] at hszd
            clear hwp hgp Hd LD
            go_wp2_with fail
            go_loopw [14] (fun i W => ∃ (r : Nat), r ≤ 10 ∧ i = .int .i64 r ∧ VAt W gv cv (roundsF V3 M r) g2 ∧ Below g2 wa W ∧ Bk W gp 103 placesC) (fun i _ => 10 - (intOf i).toNat)
            case atStart => exact ⟨0, by omega, rfl, Hp.out, LP.out, Bp.out⟩
            case round =>
              obtain ⟨r, hr, rfl, hv_, hl_, hb_⟩ := hrel
              have Hr := Lib.hid hv_
              have LR := Lib.hid hl_
              have Br := Lib.hid hb_
              clear hv_ hl_ hb_ Hp LP Bp
              by_cases hlt : r < 10
              · have hlt' : (r : Int) < 10 := by omega
                go_wp2_with fail
                go_loopw [15] (fun i W => ∃ (k : Nat), k ≤ 8 ∧ i = .int .i64 k ∧ VAt W gv cv (rowF (roundsF V3 M r) M r k) g2 ∧ Below g2 wa W ∧ Bk W gp 103 placesC) (fun i _ => 8 - (intOf i).toNat)
                case atStart => exact ⟨0, by omega, rfl, Hr.out, LR.out, Br.out⟩
                case round =>
                  obtain ⟨k, hk, rfl, hv_, hl_, hb_⟩ := hrel
                  have Hk := Lib.hid hv_
                  have LK := Lib.hid hl_
                  have Bk_ := Lib.hid hb_
                  clear hv_ hl_ hb_ Hr LR Br
                  by_cases hk8 : k < 8
                  · have hk8' : (k : Int) < 8 := by omega
                    go_upto_region 22 with fail
                    with_reducible refine wp_still_tail 20 (by kernel_rfl) (by kernel_rfl) fun w2 hw2 => ?_
                    simp only [List.take_succ_cons, List.take_zero, List.drop_succ_cons, List.drop_zero]
                    have H2 : Hid (VAt w2 gv cv (rowF (roundsF V3 M r) M r k) g2) := Lib.hid (by rw [hw2]; exact Hk.out.drew)
                    have L2 : Hid (Below g2 wa w2) := Lib.hid (by rw [hw2]; exact LK.out.drew)
                    have B2 : Hid (Bk w2 gp 103 placesC) := Lib.hid (by rw [hw2]; exact Bk_.out.drew)
                    clear hw2 Hk LK Bk_
                    obtain ⟨pl, hpl⟩ : ∃ q, placesL[k]? = some q := ⟨_, List.getElem?_eq_getElem (by simpa [placesL] using hk8)⟩
                    obtain ⟨a, b', c, d⟩ := pl
                    have hseg := Lib.hid (places_seg B2.out hpl)
                    obtain ⟨la, lb, lc, ld⟩ := places_lt _ _ _ _ _ hpl
                    have hstep := Lib.hid (rowF_step (roundsF V3 M r) M r k a b' c d hpl)
                    obtain ⟨n0, hn0⟩ : ∃ x, 2 * k = x := ⟨_, rfl⟩
                    obtain ⟨n1, hn1⟩ : ∃ x, n0 + 1 = x := ⟨_, rfl⟩
                    have HC0 := Lib.hid (fun W => rorder_any r n0 (16 * r + n0) hlt (by omega) rfl W)
                    have HC1 := Lib.hid (fun W => rorder_any r n1 (16 * r + n1) hlt (by omega) rfl W)
                    have hf0 := fig_lt (16 * r + n0) (by omega)
                    have hf1 := fig_lt (16 * r + n1) (by omega)
                    have q0 : 16 * r + 2 * k = 16 * r + n0 := by omega
                    have q1 : 16 * r + n0 + 1 = 16 * r + n1 := by omega
                    rw [q0] at hstep
                    have hmix := mixF_gF (rowF (roundsF V3 M r) M r k) M a b' c d (16 * r + n0)
                    rw [hstep.out, q1] at hmix
                    have hm0 : 2 * (k : Int) = (n0 : Int) := by omega
                    have hm1 : (n0 : Int) + 1 = (n1 : Int) := by omega
                    have hw0 : IntKind.i64.wrap (n0 : Int) = (n0 : Int) := IntWalk.i64_in _ (by omega)
                    have hw1 : IntKind.i64.wrap (n1 : Int) = (n1 : Int) := IntWalk.i64_in _ (by omega)
                    obtain ⟨f0, hff0⟩ : ∃ x, figs.getD (16 * r + n0) 0 = x := ⟨_, rfl⟩
                    obtain ⟨f1, hff1⟩ : ∃ x, figs.getD (16 * r + n1) 0 = x := ⟨_, rfl⟩
                    rw [hff0] at hf0 HC0 hmix
                    rw [hff1] at hf1 HC1 hmix
                    have hf0' : (f0 : Int) < 16 := by omega
                    have hf1' : (f1 : Int) < 16 := by omega
                    have m0 := HMC.out w2 L2.out f0 hf0
                    have m1 := HMC.out w2 L2.out f1 hf1
                    have g0 := getD_rng (i := f0) HM16.out
                    have g1 := getD_rng (i := f1) HM16.out
                    obtain ⟨y0, hy0⟩ : ∃ x, M.getD f0 0 = x := ⟨_, rfl⟩
                    obtain ⟨y1, hy1⟩ : ∃ x, M.getD f1 0 = x := ⟨_, rfl⟩
                    rw [hy0] at m0 g0 hmix
                    rw [hy1] at m1 g1 hmix
                    have HX := Lib.hid hmix
                    have HG0 := Lib.hid g0
                    have HG1 := Lib.hid g1
                    have HL := Lib.hid (And.intro la (And.intro lb (And.intro lc ld)))
                    have lrow : Hid ((rowF (roundsF V3 M r) M r k).length = 16) := Lib.hid (by rw [rowF_len, roundsF_len]; exact LV3.out)
                    clear hn0 hn1 q0 q1 hff0 hff1 hy0 hy1 hf0 hf1 hmix g0 g1 hstep hpl la lb lc ld
                    still_step; still_step; still_step; still_step
                    (with_reducible apply wpStill_val); (case hw => rfl); (case hr => exact run_load_seg 103 _ (by rfl) gp (k * 4) (by first | rfl | simp) _ hseg.out 4 (by rfl) _ Tryd.underlying103 (by rfl) hi_four)
                    still_step; still_step; still_step; still_step
                    still_call (HC0.out w2)
                    still_step; still_step; still_step; still_step; still_step; still_step; still_step
                    still_call (HC1.out w2)
                    still_step; still_step
                    with_reducible refine wpStill_nil ?_
                    go_wp2_with fail
                    with_reducible refine (mix_any (rowF (roundsF V3 M r) M r k) a b' c d y0 y1 gv cv g2 w2 HG0.out.1 HG0.out.2 HG1.out.1 HG1.out.2 ⟨H2.out, lrow.out, HL.out.1, HL.out.2.1, HL.out.2.2.1, HL.out.2.2.2⟩).mono ?_
                    rintro e w5 ⟨rfl, hv5, hm5⟩
                    rw [HX.out] at hv5
                    have H5 := Lib.hid hv5
                    have L5 : Hid (Below g2 wa w5) := Lib.hid (L2.out.trans (hm5.to_below (by have := L2.out.size; have := HG2.out; omega) (fun k _ e => by omega)))
                    have B5 := Lib.hid (hm5.bk B2.out (by omega))
                    clear hv5 hm5 H2 L2 B2 m0 m1
                    go_wp2_with fail
                    go_roundw
                    case rel => exact ⟨k + 1, by omega, by go_num, H5.out, L5.out, B5.out⟩
                    case measure => simp [intOf]; omega
                  · obtain rfl : k = 8 := by omega
                    go_wp2_with fail
                    go_roundw
                    case rel => exact ⟨r + 1, by omega, by go_num, Hk.out, LK.out, Bk_.out⟩
                    case measure => simp [intOf]; omega
              · obtain rfl : r = 10 := by omega
                obtain ⟨wq, rfl⟩ : ∃ x, x = wr := ⟨_, rfl⟩
                obtain ⟨V, hV⟩ : ∃ x, roundsF V3 M 10 = x := ⟨_, rfl⟩
                have lV : Hid (V.length = 16) := Lib.hid (by rw [← hV, roundsF_len]; exact LV3.out)
                have hr' := Hr.out
                have hcc := HCC.out
                rw [hV] at hr' hcc
                have HV := Lib.hid hr'
                obtain ⟨g3, hg3⟩ : ∃ x, wq.heap.size = x := ⟨_, rfl⟩
                have HG3 := Lib.hid hg3
                have hgv3 : gv < g3 := by rw [← hg3]; exact (HV.out.lt gv (by simp [Value.ownBlock])).2
                have hg23 : g2 ≤ g3 := by have := LR.out.size; have := HG2.out; omega
                obtain ⟨O8, hO8⟩ : ∃ x, houtF h V 8 = x := ⟨_, rfl⟩
                rw [hO8] at hcc
                have HCD := Lib.hid hcc
                have HOA : Hid (∀ i, i < 8 → O8[i]? = some (bits .xor .u32 (bits .xor .u32 (h.getD i 0) (V.getD i 0)) (V.getD (i + 8) 0))) := Lib.hid (by rw [← hO8]; exact fun i hi => hout_at h V Hhl.out i hi)
                have HOL : Hid (O8.length = 8) := Lib.hid (by rw [← hO8, houtF_len]; exact Hhl.out)
                clear hV hr' hcc hO8 hg3 Hr HCC
                go_wp2_with fail
                go_loopw [16, 17] (fun v i W => ∃ (k : Nat), k ≤ 8 ∧ i = .int .i64 k ∧ W.ownsRow g3 81 1 v k (u32s (O8.take k)) ∧ Below g3 wq W) (fun _ i _ => 8 - (intOf i).toNat)
                case atStart => exact ⟨0, by omega, rfl, World.ownsRow_nil _ _ _ _, by rw [← HG3.out]; exact Below.refl _ _⟩
                case round =>
                  obtain ⟨k, hk, rfl, ho, hbel⟩ := hrel
                  have O := Lib.hid ho
                  have LO := Lib.hid hbel
                  clear ho hbel
                  by_cases hk8 : k < 8
                  · have hk8' : (k : Int) < 8 := by omega
                    have hk16' : (k : Int) < 16 := by omega
                    go_upto_region 27 with fail
                    with_reducible refine wp_move_tail 16 (by kernel_rfl) (.tmp 16) (by rfl) (by rfl) (by kernel_rfl) fun K w2 hK hw2 => ?_
                    simp only [List.take_succ_cons, List.take_zero, List.drop_succ_cons, List.drop_zero]
                    have O1 : Hid (w2.ownsRow g3 81 1 u16 k (u32s (O8.take k))) := Lib.hid (by rw [hw2]; exact O.out.drew)
                    have L1 : Hid (Below g3 wq w2) := Lib.hid (by rw [hw2]; exact LO.out.drew)
                    have hsz2 := L1.out.size
                    rw [HG3.out] at hsz2
                    clear hw2 O LO
                    have v1 := (L1.out.cell (p := ⟨gv, k, none⟩) hgv3).trans (HV.out.word lV.out (show k < 16 by omega))
                    have v2 := (L1.out.cell (p := ⟨gv, k + 8, none⟩) hgv3).trans (HV.out.word lV.out (show k + 8 < 16 by omega))
                    have h1 := HHW.out w2 (LR.out.trans (L1.out.mono hg23)) k hk8
                    have hcat : Hid (u32s (O8.take k) ++ [.int .u32 (bits .xor .u32 (bits .xor .u32 (h.getD k 0) (V.getD k 0)) (V.getD (k + 8) 0))] = u32s (O8.take (k + 1))) := Lib.hid (by rw [take_at (HOA.out k hk8)]; simp [u32s])
                    obtain ⟨y1, hy1⟩ : ∃ x, V.getD k 0 = x := ⟨_, rfl⟩
                    obtain ⟨y2, hy2⟩ : ∃ x, V.getD (k + 8) 0 = x := ⟨_, rfl⟩
                    obtain ⟨y3, hy3⟩ : ∃ x, h.getD k 0 = x := ⟨_, rfl⟩
                    rw [hy1] at v1 hcat
                    rw [hy2] at v2 hcat
                    rw [hy3] at h1 hcat
                    obtain ⟨j, hj⟩ : ∃ x, k + 8 = x := ⟨_, rfl⟩
                    rw [hj] at v2
                    have hm0 : (k : Int) + 8 = (j : Int) := by omega
                    have hw0 : IntKind.i64.wrap (j : Int) = (j : Int) := IntWalk.i64_in _ (by omega)
                    have hj16 : (j : Int) < 16 := by omega
                    obtain ⟨z1, hz1'⟩ : ∃ z, bits .xor .u32 y3 y1 = z := ⟨_, rfl⟩
                    obtain ⟨z2, hz2'⟩ : ∃ z, bits .xor .u32 z1 y2 = z := ⟨_, rfl⟩
                    rw [hz1', hz2'] at hcat
                    clear hy1 hy2 hy3 hj
                    still_step; still_step; still_step; still_step; still_step; still_step; still_step; still_step; still_step; still_step; still_step; still_step; still_step; still_step; still_step; still_step
                    with_reducible refine wpStill_nil ?_
                    have C1 := Lib.hid (World.news_of_block (cs := #[.int .u32 z2]) (t := 81) (fr := (0, 0)) (heap_alloc_new w2 _))
                    go_wp2_with (refine wpList_append_lies (w := w2.alloc (.cells #[.int .u32 z2] 81)) (by rfl) _ _ 80 (by rfl) g3 81 i0 _ 1 4 Tryd.underlying80 hi hz0 hz1 hz2 rfl (by omega) u16 k (u32s (O8.take k)) (by rfl) (O1.out.alloc _) ⟨w2.heap.size, 0, none⟩ 1 1 [.int .u32 z2] (by rfl) (by rfl) (by exact C1.out) (by simp [Value.oneCell']) (by omega) (by unfold maxLen; omega) (by omega) (by simp; omega) _ (by rfl) ?_; intro gg cap w3 hown2 hgrow hat hlt_)
                    have L3 : Hid (Below g3 wq w3) := Lib.hid ((L1.out.alloc hsz2 _).grown hgrow (by simp; omega) (fun k hk => (own_cells O1.out hk).1))
                    have O3 : Hid (w3.ownsRow g3 81 1 (.slice (some ⟨gg, 0, none⟩) (k + 1) cap) (k + 1) (u32s (O8.take (k + 1)))) := Lib.hid (by rw [← hcat.out]; exact hown2)
                    clear hown2 hgrow hat hlt_ O1 L1 C1 v1 v2 h1
                    go_roundw
                    case rel => exact ⟨k + 1, by omega, by go_num, O3.out, L3.out⟩
                    case measure => simp [intOf]; omega
                  · obtain rfl : k = 8 := by omega
                    have ho := O.out
                    rw [List.take_of_length_le (by rw [HOL.out]; omega)] at ho
                    have HO := Lib.hid ho
                    clear ho O
                    go_wp2_with fail
                    go_ret
                    rw [HGT.out]
                    exact ⟨_, rfl, by rw [HCD.out]; exact own_mono HO.out (by omega), L.out.trans (((LR.out.trans (LO.out.mono hg23))).mono hsz)⟩
end Go.Proofs.YtdeikpifflkabaaDoor

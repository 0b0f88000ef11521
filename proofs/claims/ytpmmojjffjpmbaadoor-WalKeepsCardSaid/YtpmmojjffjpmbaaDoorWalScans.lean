/- What this text proves: the contract of the law WalScans. The conditions are how the bytes lie in memory, and that the package's table is as its text lays it. -/
import Derived.Test.YtpmmojjffjpmbaaDoorWalAlive
import Derived.Test.YtpmmojjffjpmbaaDoorWalRefS
import Derived.Test.YtpmmojjffjpmbaaDoorSame02
namespace Go.Proofs.YtpmmojjffjpmbaaDoor
open Go.RowKit
set_option linter.unusedVariables false
set_option linter.unusedSimpArgs false

theorem same02_at (A A' : Option Addr) (xs ys : List UInt8) (m n c c' : Nat) (hm : xs.length = m) (hn : ys.length = n) (w : World) (hA : Sl w w.heap.size 1 A m (bts xs)) (hA' : Sl w w.heap.size 1 A' n (bts ys)) :
    Calls Tryd.prog 12 #[.slice A m c, .slice A' n c'] w fun e w' => e = .returned (.bool (decide (xs = ys))) ∧ Below w.heap.size w w' := by
  subst hm hn
  exact same02_any A A' xs ys c c' w hA hA'

set_option maxRecDepth 100000 in
set_option maxHeartbeats 4000000 in
theorem scans_walk (A : Option Addr) (l : List UInt8) (c : Nat) (hlc : l.length ≤ c) (hcm : c ≤ maxLen) {w : World} (hA : Sl w w.heap.size 1 A l.length (bts l)) (_ : World) (hr : Roots w ∧ 0 < w.heap.size) :
    Calls Tryd.prog 3 #[.slice A l.length c] w fun e w' => e = .returned (.bool true) ∧ Below w.heap.size w w' := by
  obtain ⟨i0, hi, hz0, hz1, hz2⟩ := info_parts u8_info
  have h0 := hr.2
  have HR := Lib.hid hr.1
  have HA := Lib.hid hA
  obtain ⟨L, hL⟩ : ∃ L, l.length = L := ⟨_, rfl⟩
  rw [hL] at hlc HA ⊢
  have HL := Lib.hid hL
  unfold maxLen at hcm
  clear hr hA hL
  by_cases hbig : 20000 < L
  · have e0 : decide (20000 < (L : Int)) = true := by simp; omega
    go_enter Tryd.func3, Tryd.ntmps3
    go_wp2_with fail
    with_reducible refine (walive_any w HR.out h0).mono ?_
    rintro e w1 ⟨rfl, hb⟩
    have HB := Lib.hid hb
    clear hb
    go_wp2_with fail
    go_ret
    exact ⟨rfl, HB.out⟩
  have e0 : decide (20000 < (L : Int)) = false := by simp; omega
  have O1 := Lib.hid (World.ownsRow_made (base := w.heap.size) (e := 5) (size := 1) w #[] 0 (Nat.le_refl _) (by unfold maxLen; omega) (by simp))
  have L1 : Hid (Below w.heap.size w (w.alloc (.cells #[] 5))) := Lib.hid (by (first | assumption | (repeat (first | exact Below.refl _ _ | assumption | apply Below.drew | apply below_drewN | (refine Below.setCell ?_ (by (try simp) <;> omega) _) | (refine Below.alloc ?_ (by (try simp) <;> omega) _)))))
  go_enter Tryd.func3, Tryd.ntmps3
  go_upto_region 4 with (first
    | (at_builtin; (refine wpList_append_sl (w.alloc (.cells #[] 5)) (by rfl) _ _ 22 (by rfl) w.heap.size 5 i0 _ 1 1 Tryd.underlying22 hi hz0 hz1 hz2 rfl (by omega) (.slice (some ⟨w.heap.size, 0, none⟩) 0 0) 0 [] (by rfl) O1.out A L c (bts l) (by rfl) ((HA.out.below L1.out).more L1.out.size) bts_one (by unfold maxLen; omega) (by omega) (by simp) ?_; intro v2 w2 ho_ hg_ hv_; have P2 := Lib.hid ho_; have L2 : Hid (Below w.heap.size w w2) := Lib.hid (L1.out.grown hg_ (by simp) (fun k hk => (own_cells O1.out hk).1)); clear ho_ hg_ hv_))
    | (at_builtin; (refine wpList_append_sl (w2.alloc (.cells #[.int .u8 77] 5)) (by rfl) _ _ 22 (by rfl) w.heap.size 5 i0 _ 1 1 Tryd.underlying22 hi hz0 hz1 hz2 rfl (by omega) v2 (0 + L) ([] ++ bts l) (by rfl) (P2.out.alloc _) (some ⟨w2.heap.size, 0, none⟩) 1 1 [.int .u8 77] (by rfl) ⟨rfl, fun _ => ⟨w2.heap.size, 0, rfl, by simp, fun j u hu => by rw [Nat.zero_add, (Bk.new w2 5 #[.int .u8 77]).cell, List.getElem?_toArray]; exact hu⟩⟩ (by simp [Value.oneCell']) (by unfold maxLen; omega) (by omega) (by have := L2.out.size; simp; omega) ?_; intro v3 w3 ho_ hg_ hv_; have P3' := ho_; have L3 : Hid (Below w.heap.size w w3) := Lib.hid ((L2.out.alloc L2.out.size _).grown hg_ (by have := L2.out.size; simp; omega) (fun k hk => (own_cells P2.out hk).1)); clear ho_ hg_ hv_; rw [List.nil_append] at P3'; obtain ⟨A3, c3, rfl, hc31, hc32, hs3⟩ := own_sl P3'; have P3 := Lib.hid P3'; clear P3')))
  have P3' := P3.out
  rw [Nat.zero_add] at P3'
  have hs3 : Sl w3 w3.heap.size 1 A3 (L + 1) (bts l ++ [.int .u8 77]) := own_sl_at P3'
  have HS3 := Lib.hid hs3
  have hs3l : Sl w3 w3.heap.size 1 A3 L (bts l) := by
    have := hs3.take (k := L) (by omega)
    rwa [Nat.mul_one, List.take_left' (by rw [bts_len, HL.out])] at this
  have HS3L := Lib.hid hs3l
  have hsc := scan_any A3 l c3 w3 (HR.out.below L3.out h0) (Nat.lt_of_lt_of_le h0 L3.out.size) (by rw [HL.out]; omega) hc32 (by rw [HL.out]; omega) (by rw [HL.out]; exact hs3l)
  rw [HL.out] at hsc
  obtain ⟨X, hX⟩ : ∃ X, (framesF ckW (scanW ckW l)).length = X := ⟨_, rfl⟩
  have hXL : X ≤ L := by rw [← hX, ← HL.out]; exact (scanW_take l).2
  rw [hX] at hsc
  have HX := Lib.hid hX
  have h3c : L ≤ c3 := by omega
  clear P3' hs3 hs3l P3 P2 O1 L1 hX
  unfold maxLen at hc32
  go_wp2_with fail
  with_reducible refine hsc.mono ?_
  rintro e w4 ⟨v4, l4, rfl, hr4, hd4, hb4⟩
  obtain ⟨K, hK⟩ : ∃ K, l4.length = K := ⟨_, rfl⟩
  have hKX : K ≤ X := by
    have := tot_len l4
    rw [tot, hd4, HX.out] at this
    omega
  obtain ⟨A4, c4, rfl, _, _, _, _⟩ := recs_slice hr4 hK
  have HK := Lib.hid hK
  have HR4 := Lib.hid hr4
  have HD4 := Lib.hid hd4
  have L4 := Lib.hid (L3.out.trans (hb4.mono L3.out.size))
  have HS4 := Lib.hid ((HS3.out.below hb4).more hb4.size)
  have HSL4 := Lib.hid ((HS3L.out.below hb4).more hb4.size)
  clear hsc hr4 hd4 hb4 hK HS3 HS3L L3
  have hrs := rscan_any A l L c HL.out w4 hlc (by unfold maxLen; omega) (by omega) ((HA.out.below L4.out).more L4.out.size)
  rw [HX.out] at hrs
  go_wp2_with fail
  with_reducible refine hrs.mono ?_
  rintro e w5 ⟨v5, l5, rfl, hr5, hd5, hb5⟩
  obtain ⟨A5, c5, rfl, _, _, hsl5, hgd5⟩ := recs_slice hr5 (m := K) (by rw [dat_len hd5, ← dat_len HD4.out]; exact HK.out)
  have hr45 := HR4.out.below hb5 (Nat.le_refl _)
  obtain ⟨A4', c4', hv4, _, _, hsl4, hgd4⟩ := recs_slice hr45 HK.out
  cases hv4
  have hsm := rsame_any A4 A5 l4 l5 K K c4 c5 HK.out (by rw [dat_len hd5, ← dat_len HD4.out]; exact HK.out) w5 (by omega) (by omega) hsl4 hsl5 hgd4 hgd5
  rw [hd5, HD4.out, decide_eq_true rfl] at hsm
  have L5 := Lib.hid (L4.out.trans (hb5.mono L4.out.size))
  have HS5 := Lib.hid ((HS4.out.below hb5).more hb5.size)
  have HSL5 := Lib.hid ((HSL4.out.below hb5).more hb5.size)
  have HSM := Lib.hid hsm
  clear hrs hr5 hd5 hb5 hr45 hsl4 hsl5 hgd4 hgd5 hsm HR4 HD4 L4 HS4 HSL4
  go_wp2_with fail
  with_reducible refine HSM.out.mono ?_
  rintro e w6 ⟨rfl, hb6⟩
  have L6 := Lib.hid (L5.out.trans (hb6.mono L5.out.size))
  have HS6 := Lib.hid ((HS5.out.below hb6).more hb6.size)
  have hst := same02_at A3 A l l L L c3 c HL.out HL.out w6 ((HSL5.out.below hb6).more hb6.size) ((HA.out.below L6.out).more L6.out.size)
  rw [decide_eq_true rfl] at hst
  have HST := Lib.hid hst
  clear hb6 hst HSM HS5 HSL5 L5
  go_wp2_with fail
  with_reducible refine HST.out.mono ?_
  rintro e w7 ⟨rfl, hb7⟩
  have L7 := Lib.hid (L6.out.trans (hb7.mono L6.out.size))
  have HS7 := Lib.hid ((HS6.out.below hb7).more hb7.size)
  clear hb7 HST HS6 L6
  go_wp2_with fail
  with_reducible refine (walive_any w7 (HR.out.below L7.out h0) (Nat.lt_of_lt_of_le h0 L7.out.size)).mono ?_
  rintro e w8 ⟨rfl, hb8⟩
  have L8 := Lib.hid (L7.out.trans (hb8.mono L7.out.size))
  obtain ⟨b3, o3, rfl, hb3, hcc⟩ := ((HS7.out.below hb8).more hb8.size).at_ (by omega)
  have hc77 : w8.cell? ⟨b3, o3 + L, none⟩ = some (.int .u8 77) := hcc L _ (by rw [List.getElem?_append_right (by rw [bts_len, HL.out]; omega), bts_len, HL.out, Nat.sub_self]; rfl)
  have k1 : (L : Int) + 1 ≤ (c3 : Int) := by omega
  have k2 : (L : Int) < (L : Int) + 1 := by omega
  clear hb8 hcc HS7 L7
  go_wp2_with fail
  go_ret
  exact ⟨rfl, L8.out⟩
end Go.Proofs.YtpmmojjffjpmbaaDoor

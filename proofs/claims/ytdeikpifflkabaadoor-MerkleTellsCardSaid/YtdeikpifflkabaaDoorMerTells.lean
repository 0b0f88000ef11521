/- What this text proves: the walk of the statement MerkleTells: it returns true. The conditions: how its arguments lie in memory; that the package's table is as its text lays it. -/
import Derived.Test.YtdeikpifflkabaaDoorMerProve
import Derived.Test.YtdeikpifflkabaaDoorMerAlive
namespace Go.Proofs.YtdeikpifflkabaaDoor
open Go.RowKit Go.Shelf
set_option linter.unusedVariables false
set_option linter.unusedSimpArgs false

attribute [local irreducible] digF
set_option maxRecDepth 100000 in
set_option maxHeartbeats 8000000 in
theorem tells_any (A : Option Addr) (l : List Ent) (n : Nat) (hn : l.length = n) (c : Nat) (key : ByteArray) (w : World) (hr : Roots w) (h0 : 0 < w.heap.size) (hlc : n ≤ c) (hcm : c ≤ maxLen) (hA : Sl w w.heap.size 2 A l.length (eCells l)) :
    Calls Tryd.prog 7 #[.slice A n c, .string key] w fun e w' => e = .returned (.bool true) ∧ Below w.heap.size w w' := by
  have hzh := zero_hash
  have h0l : (bts hash0).length = 32 := by rw [bts_len, hash0_len]
  have HR := Lib.hid hr
  have HA := Lib.hid hA
  have HN := Lib.hid hn
  have hAl := Lib.hid fun W (hb : Below w.heap.size w W) => alive_any W (hr.below hb h0) (Nat.lt_of_lt_of_le h0 hb.size)
  have hF1 := few_any A l c w (by omega) hA
  rw [hn] at hF1
  have HF1 := Lib.hid hF1
  clear hr hA hcm hF1 hn
  go_enter Tryd.func7, Tryd.ntmps7
  go_wp2_with fail
  with_reducible refine HF1.out.mono ?_
  rintro e w1 ⟨b1, rfl, hb1, hB1⟩
  have B2 := Lib.hid hB1
  have F1 := Lib.hid hb1
  clear hB1 hb1 HF1
  cases b1 with
  | false =>
    go_wp2_with fail
    with_reducible refine (hAl.out _ B2.out).mono ?_
    rintro e w3 ⟨rfl, hb3⟩
    go_wp2_with fail
    go_ret
    exact ⟨rfl, B2.out.trans (hb3.mono B2.out.size)⟩
  | true =>
  obtain ⟨hl7, hfl⟩ := F1.out rfl
  have FL := Lib.hid hfl
  clear hfl F1
  have hR1 := right_any A l c w1 (by rw [HN.out]; exact hl7) FL.out ((HA.out.below B2.out).more B2.out.size)
  rw [HN.out] at hR1
  have HR1 := Lib.hid hR1
  clear hR1
  go_wp2_with fail
  obtain ⟨s1, hs1⟩ : ∃ s, ascK l = s := ⟨_, rfl⟩
  rw [hs1] at HR1
  have HS1 := Lib.hid hs1
  clear hs1
  with_reducible refine HR1.out.mono ?_
  rintro e w3 ⟨rfl, hb3⟩
  have B4 := Lib.hid (B2.out.trans (hb3.mono B2.out.size))
  clear hb3 HR1 B2
  cases s1 with
  | false =>
    go_wp2_with fail
    with_reducible refine (hAl.out _ B4.out).mono ?_
    rintro e w4 ⟨rfl, hb4⟩
    go_wp2_with fail
    go_ret
    exact ⟨rfl, B4.out.trans (hb4.mono B4.out.size)⟩
  | true =>
  obtain ⟨J, hJ⟩ : ∃ J, rootE l = J := ⟨_, rfl⟩
  have hJl : J.length = 32 := by rw [← hJ, rootE_len]
  have hbl : (bts J).length = 32 := by rw [bts_len, hJl]
  have hc1 := Root_any A l c w3 (by rw [HN.out]; exact hl7) FL.out (HR.out.below B4.out h0) (Nat.lt_of_lt_of_le h0 B4.out.size) ((HA.out.below B4.out).more B4.out.size)
  rw [rootV_asc HS1.out, hJ, HN.out] at hc1
  have HC1 := Lib.hid hc1
  have HJ := Lib.hid hJ
  clear hc1 hJ
  go_wp2_with fail
  with_reducible refine HC1.out.mono ?_
  rintro e w5 ⟨rfl, hb5⟩
  have B5 := Lib.hid (B4.out.trans (hb5.mono B4.out.size))
  clear hb5 HC1 B4
  go_upto_region 5 with (refine wpList_puts (by rfl) 26 _ _ (by with_reducible rfl) _ 0 (by rfl) (bts J) (by rfl) 26 (bts hash0) (by exact Bk.new _ _ _) 32 hbl (by rw [h0l]; omega) hi_hash bts_all ?_; intro w6 hb_ hm_ hz_; rw [put_hash0 _ hJl] at hb_; have KH6 := Lib.hid hb_; have M6 := Lib.hid hm_; clear hb_ hm_ hz_)
  have B6 : Hid (Below w.heap.size w w6) := Lib.hid ((B5.out.alloc B5.out.size (.cells (bts hash0).toArray 26)).trans (M6.out.to_below (by have := B5.out.size; simp; omega) (fun k o e => by rw [e]; exact B5.out.size)))
  have KA6 := KH6.out
  obtain ⟨ga, hga⟩ : ∃ g, w5.heap.size = g := ⟨_, rfl⟩
  rw [hga] at KA6 ⊢
  have KA := Lib.hid KA6
  clear KA6 KH6 M6 B5 hga
  have HPR := Lib.hid (prove_any A l n HN.out c key w6 hl7 FL.out HS1.out (HR.out.below B6.out h0) (Nat.lt_of_lt_of_le h0 B6.out.size) ((HA.out.below B6.out).more B6.out.size))
  go_wp2_with fail
  with_reducible refine HPR.out.mono ?_
  rintro e w7 ⟨i, ps, P, c', hlow, hof, rfl, hin, hb7⟩
  have B7 := Lib.hid (B6.out.trans (hb7.mono B6.out.size))
  have KA7 := Lib.hid (KA.out.below hb7 KA.out.lt)
  have HT := Lib.hid (tells HN.out (by omega) (riseK_of HS1.out) hlow hof)
  have HFI := Lib.hid (show ∀ p ∈ ps, p.fits from fun p hp => by
    obtain ⟨j, hj⟩ := hof.each p hp
    exact hj.fits (by rw [HN.out]; exact hl7) FL.out)
  have hlen : ps.length ≤ 2 := by rw [hof.len]; exact idxs_len _ _ _
  have HIN := Lib.hid hin
  have HOF := Lib.hid hof
  clear hb7 HPR B6 KA hin hof hlow
  go_upto_region 6 with fail
  have KP8 := Bk.new w7 38 #[.int .i64 (n : Int), .slice P ps.length c']
  have hb78 : Below w7.heap.size w7 (w7.alloc (.cells #[.int .i64 (n : Int), .slice P ps.length c'] 38)) := (by (first | assumption | (repeat (first | exact Below.refl _ _ | assumption | apply Below.drew | apply below_drewN | (refine Below.setCell ?_ (by (try simp) <;> omega) _) | (refine Below.alloc ?_ (by (try simp) <;> omega) _)))))
  obtain ⟨w8, hw8⟩ : ∃ W, w7.alloc (.cells #[.int .i64 (n : Int), .slice P ps.length c'] 38) = W := ⟨_, rfl⟩
  obtain ⟨gb, hgb⟩ : ∃ g, w7.heap.size = g := ⟨_, rfl⟩
  rw [hw8] at KP8 hb78 ⊢
  have B8 := Lib.hid (B7.out.trans (hb78.mono B7.out.size))
  have KA8 := Lib.hid (KA7.out.below hb78 KA7.out.lt)
  have HIN8 := Lib.hid (HIN.out.below hb78)
  rw [hgb] at KP8 ⊢
  have c0 := KP8.cell 0
  have c1 := KP8.cell 1
  obtain ⟨P', cc, hpe, hp1, hp2, hp3⟩ := own_sl HIN8.out.row
  injection hpe with e1 e2 e3
  subst e1
  subst e3
  have HCK := check_any J hJl key (n : Int) ps P c' w8 (by omega) (by omega) (by omega) HFI.out (HIN8.out.good HOF.out (by rw [HN.out]; exact hl7)) (HR.out.below B8.out h0) (Nat.lt_of_lt_of_le h0 B8.out.size) hp3
  rw [← HJ.out, HT.out, HJ.out] at HCK
  unfold resV at HCK
  have HCK := Lib.hid HCK
  obtain ⟨⟨S, b⟩, hS⟩ : ∃ x, findF key l = x := ⟨_, rfl⟩
  have HFD := Lib.hid (show ∀ W, Below w.heap.size w W → _ from fun W hb => rfind_any A l n c HN.out key W (by omega) ((HA.out.below hb).more hb.size))
  rw [hS] at HCK HFD
  clear hw8 hgb KP8 hb78 B7 KA7 HIN HT hS hp1 hp2 hp3
  go_wp2_with (refine wpList_val (by rfl) (run_ldh _ (by with_reducible rfl) ga 0 (by rfl) J hJl (by exact KA8.out.all)) ?_)
  with_reducible refine HCK.out.mono ?_
  rintro e w9 ⟨rfl, hb9⟩
  have B9 := Lib.hid (B8.out.trans (hb9.mono B8.out.size))
  clear hb9 HCK B8 KA8 HIN8 c0 c1
  go_wp2_with fail
  with_reducible refine (HFD.out _ B9.out).mono ?_
  rintro e w10 ⟨rfl, hb10⟩
  have B10 := Lib.hid (B9.out.trans (hb10.mono B9.out.size))
  clear hb10 HFD B9
  go_wp2_with fail
  with_reducible refine (hAl.out _ B10.out).mono ?_
  rintro e w11 ⟨rfl, hb11⟩
  have B11 := Lib.hid (B10.out.trans (hb11.mono B10.out.size))
  clear hb11 B10
  go_wp2_with fail
  go_ret
  exact ⟨by cases b <;> simp, B11.out⟩
theorem tells_walk (A : Option Addr) (l : List Ent) (c : Nat) (hlc : l.length ≤ c) (hcm : c ≤ maxLen) {w : World} (hA : Sl w w.heap.size 2 A l.length (eCells l)) (key : ByteArray) (_ : World) (hr : Roots w ∧ 0 < w.heap.size) :
    Calls Tryd.prog 7 #[.slice A l.length c, .string key] w fun e w' => e = .returned (.bool true) ∧ Below w.heap.size w w' := tells_any A l l.length rfl c key w hr.1 hr.2 hlc hcm hA
end Go.Proofs.YtdeikpifflkabaaDoor

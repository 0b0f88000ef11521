/- What this text proves: the live question's answer (layer 5). The condition is that the package's table is as its text lays it. -/
import Derived.Test.YtdeikpifflkabaaDoorMerRootC
import Derived.Test.YtdeikpifflkabaaDoorBlakeText
namespace Go.Proofs.YtdeikpifflkabaaDoor
open Go.RowKit
set_option linter.unusedVariables false
set_option linter.unusedSimpArgs false

def aliveS : List UInt8 := [54, 57, 50, 49, 55, 97, 51, 48, 55, 57, 57, 48, 56, 48, 57, 52, 101, 49, 49, 49, 50, 49, 100, 48, 52, 50, 51, 53, 52, 97, 55, 99, 49, 102, 53, 53, 98, 54, 52, 56, 50, 99, 97, 49, 97, 53, 49, 101, 49, 98, 50, 53, 48, 100, 102, 100, 49, 101, 100, 48, 101, 101, 102, 57]
set_option maxRecDepth 100000 in
theorem alive_eq : textF (digF []) = aliveS := by decide +kernel
def abE : List Ent := [(⟨#[97]⟩, ⟨#[]⟩), (⟨#[98]⟩, ⟨#[]⟩)]
theorem abE_asc : ascK abE = true := by decide +kernel
def EntsAt (l : List Ent) (v : Value) (W : World) : Prop := ∃ A c, v = .slice A l.length c ∧ l.length ≤ c ∧ c ≤ maxLen ∧ Sl W W.heap.size 2 A l.length (eCells l)
theorem stays_ents (l : List Ent) : Remains (EntsAt l) := fun _ _ _ ⟨A, c, h1, h2, h3, h4⟩ hb => ⟨A, c, h1, h2, h3, (h4.below hb).more hb.size⟩

attribute [local irreducible] digF textF
set_option maxRecDepth 100000 in
set_option maxHeartbeats 4000000 in
theorem alive_any (w : World) (hr : Roots w) (h0 : 0 < w.heap.size) :
    Calls Tryd.prog 11 #[] w fun e w' => e = .returned (.bool true) ∧ Below w.heap.size w w' := by
  have HR := Lib.hid hr
  have hzh := zero_hash
  have h0l : (bts hash0).length = 32 := by rw [bts_len, hash0_len]
  have hc1 : Calls Tryd.prog 12 #[.slice none 0 0] w _ := Root_any none [] 0 w (by simp) (fun e he => by cases he) hr h0 (Sl.nil _ _ _ _)
  rw [show rootV [] = (digF [], 0) by unfold rootV; rw [show ascK [] = true from rfl, if_pos rfl, rootE_nil]] at hc1
  obtain ⟨J, hJ⟩ : ∃ J, digF [] = J := ⟨_, rfl⟩
  have hJl : J.length = 32 := by rw [← hJ, digF_len]
  have hbl : (bts J).length = 32 := by rw [bts_len, hJl]
  have hTx : textF J = aliveS := by rw [← hJ]; exact alive_eq
  obtain ⟨S, hS⟩ : ∃ S : ByteArray, S = ⟨(textF J).toArray⟩ := ⟨_, rfl⟩
  have HS := Lib.hid hS
  have hE : Hid (S.toList = aliveS) := Lib.hid (by
    rw [hS, hTx]
    exact ByteArray.toList_mk _)
  have HJ := Lib.hid hJ
  rw [hJ] at hc1
  have HC1 := Lib.hid hc1
  clear hr hc1 hJ hTx hS
  go_enter Tryd.func11, Tryd.ntmps11
  go_upto_region 2 with (first
    | (go_at_call 12; with_reducible refine HC1.out.mono ?_; rintro e w1 ⟨rfl, hb1⟩; have L1 := Lib.hid hb1; clear hb1)
    | (refine wpList_puts (by rfl) 26 _ _ (by with_reducible rfl) _ 0 (by rfl) (bts J) (by rfl) 26 (bts hash0) (by exact Bk.new _ _ _) 32 hbl (by rw [h0l]; omega) hi_hash bts_all ?_; intro w2 hb_ hm_ hz_; rw [put_hash0 _ hJl] at hb_; have KH2 := Lib.hid hb_; have M2 := Lib.hid hm_; clear hb_ hm_ hz_))
  have B2 : Below w.heap.size w w2 := (L1.out.alloc L1.out.size (.cells (bts hash0).toArray 26)).trans (M2.out.to_below (by have := L1.out.size; simp; omega) (fun k o e => by rw [e]; exact L1.out.size))
  have K2 := KH2.out
  obtain ⟨g1, hg1⟩ : ∃ n, w1.heap.size = n := ⟨_, rfl⟩
  rw [hg1] at K2 ⊢
  have HW : Hid (∀ W, Below w2.drew.heap.size w2.drew W → Bk W g1 26 (bts J).toArray ∧ Below w.heap.size w W) := Lib.hid (fun W h =>
    have hd : Below w2.heap.size w2 w2.drew := (Below.refl _ _).drew
    ⟨K2.drew.below h K2.drew.lt, (B2.trans (hd.mono B2.size)).trans (h.mono (B2.trans (hd.mono B2.size)).size)⟩)
  clear K2 B2 hg1 KH2 M2 L1 HC1
  refine wp_region_each_tail 18 (lstV [fun v _ => v = .int .i64 0, fun v _ => v = .bool true, fun v _ => v = .bool true, fun v _ => v = .agg (bts J).toArray, fun v _ => v = .agg (bts J).toArray, fun v _ => v = .bool true, fun v _ => v = .bool true, fun v _ => v = .bool true, fun v _ => v = .agg (bts J).toArray, fun v _ => v = .string S, fun v _ => v = .bool true, fun v _ => v = .bool true, fun v _ => v = .bool true, fun v _ => v = .agg #[.string ⟨#[97]⟩, .string ⟨#[]⟩], fun v _ => v = .agg #[.string ⟨#[98]⟩, .string ⟨#[]⟩], EntsAt abE, fun v _ => v = .bool true, fun v _ => v = .bool true]) (by kernel_rfl) (by kernel_rfl) (lstV_on (by repeat' (first | exact forall_nil | refine forall_cons ?_ ?_ | exact stays_ents _ | exact stays_eq _))) ?turns ?fin
  case turns =>
    refine ⟨fun a W pre => ?_, fun a W pre => ?_, fun a W pre => ?_, fun a W pre => ?_, fun a W pre => ?_, fun a W pre => ?_, fun a W pre => ?_, fun a W pre => ?_, fun a W pre => ?_, fun a W pre => ?_, fun a W pre => ?_, fun a W pre => ?_, fun a W pre => ?_, fun a W pre => ?_, fun a W pre => ?_, fun a W pre => ?_, fun a W pre => ?_, fun a W pre => ?_, trivial⟩
    · (refine .inl ?_; have q0 : a.eval (.tmp 2) = .int .i64 0 := pre.was 2 (by kernel_rfl) rfl; rw [Act.eval, Array.getD_eq_getD_getElem?] at q0; exact does_val (want_none rfl) (by go_simp) rfl)
    · (refine .inl ?_; have q0 : a.eval (.tmp 7) = .int .i64 0 := pre.val 0 7 (by kernel_rfl) (by kernel_rfl); rw [Act.eval, Array.getD_eq_getD_getElem?] at q0; exact does_val (want_none rfl) (by go_simp) rfl)
    · (refine .inl ?_; have q0 : a.eval (.tmp 8) = .bool true := pre.val 1 8 (by kernel_rfl) (by kernel_rfl); rw [Act.eval, Array.getD_eq_getD_getElem?] at q0; exact does_val (want_none rfl) (by go_simp) rfl)
    · refine .inl ?_
      have q0 : a.eval (.tmp 1) = .pointer (some ⟨g1, 0, none⟩) := pre.was 1 (by kernel_rfl) rfl
      exact does_val (want_some (b := true) (g := 2) (dg := 9) rfl (by kernel_rfl) (by rw [pre.size]; simp) (pre.val 2 9 (by kernel_rfl) (by kernel_rfl))) (run_load_seg 26 _ rfl g1 0 q0 _ (HW.out W pre.b).1.all 32 hbl _ Tryd.underlying26 rfl hi_hash) rfl
    · refine .inl ?_
      have hb := (HW.out W pre.b).2
      have hc0 : Calls Tryd.prog 24 #[.slice none 0 0] W _ := digest_any none [] 0 W (HR.out.below hb h0) (by unfold maxLen; simp) (Sl.nil _ _ _ _) (Nat.lt_of_lt_of_le h0 hb.size)
      rw [HJ.out] at hc0
      exact does_call (want_some (b := true) (g := 2) (dg := 9) rfl (by kernel_rfl) (by rw [pre.size]; simp) (pre.val 2 9 (by kernel_rfl) (by kernel_rfl))) (by go_simp) hc0 (fun _ => rfl)
    · refine .inl ?_
      have q0 : a.eval (.tmp 10) = .agg (bts J).toArray := pre.val 3 10 (by kernel_rfl) (by kernel_rfl)
      have q1 : a.eval (.tmp 11) = .agg (bts J).toArray := pre.val 4 11 (by kernel_rfl) (by kernel_rfl)
      exact does_val (want_some (b := true) (g := 2) (dg := 9) rfl (by kernel_rfl) (by rw [pre.size]; simp) (pre.val 2 9 (by kernel_rfl) (by kernel_rfl))) (run_same _ _ _ rfl J q0 q1 hJl) rfl
    · (refine .inl ?_; have q0 : a.eval (.tmp 9) = .bool true := pre.val 2 9 (by kernel_rfl) (by kernel_rfl); have q1 : a.eval (.tmp 12) = .bool true := pre.val 5 12 (by kernel_rfl) (by kernel_rfl); rw [Act.eval, Array.getD_eq_getD_getElem?] at q0 q1; exact does_val (want_none rfl) (by go_simp) rfl)
    · (refine .inl ?_; have q0 : a.eval (.tmp 13) = .bool true := pre.val 6 13 (by kernel_rfl) (by kernel_rfl); rw [Act.eval, Array.getD_eq_getD_getElem?] at q0; exact does_val (want_none rfl) (by go_simp) rfl)
    · refine .inl ?_
      have q0 : a.eval (.tmp 1) = .pointer (some ⟨g1, 0, none⟩) := pre.was 1 (by kernel_rfl) rfl
      exact does_val (want_some (b := true) (g := 7) (dg := 14) rfl (by kernel_rfl) (by rw [pre.size]; simp) (pre.val 7 14 (by kernel_rfl) (by kernel_rfl))) (run_load_seg 26 _ rfl g1 0 q0 _ (HW.out W pre.b).1.all 32 hbl _ Tryd.underlying26 rfl hi_hash) rfl
    · refine .inl ?_
      have q0 : a.eval (.tmp 15) = .agg (bts J).toArray := pre.val 8 15 (by kernel_rfl) (by kernel_rfl)
      rw [Act.eval, Array.getD_eq_getD_getElem?] at q0
      have ht := text_any J hJl W
      rw [← HS.out] at ht
      exact does_call (want_some (b := true) (g := 7) (dg := 14) rfl (by kernel_rfl) (by rw [pre.size]; simp) (pre.val 7 14 (by kernel_rfl) (by kernel_rfl))) (by go_simp) ht (fun _ => rfl)
    · refine .inl ?_
      have q0 : a.eval (.tmp 16) = .string S := pre.val 9 16 (by kernel_rfl) (by kernel_rfl)
      rw [Act.eval, Array.getD_eq_getD_getElem?] at q0
      have hE' := hE.out
      unfold aliveS at hE'
      exact does_val (v := .bool true) (want_some (b := true) (g := 7) (dg := 14) rfl (by kernel_rfl) (by rw [pre.size]; simp) (pre.val 7 14 (by kernel_rfl) (by kernel_rfl))) (by go_simp) rfl
    · (refine .inl ?_; have q0 : a.eval (.tmp 14) = .bool true := pre.val 7 14 (by kernel_rfl) (by kernel_rfl); have q1 : a.eval (.tmp 17) = .bool true := pre.val 10 17 (by kernel_rfl) (by kernel_rfl); rw [Act.eval, Array.getD_eq_getD_getElem?] at q0 q1; exact does_val (want_none rfl) (by go_simp) rfl)
    · (refine .inl ?_; have q0 : a.eval (.tmp 18) = .bool true := pre.val 11 18 (by kernel_rfl) (by kernel_rfl); rw [Act.eval, Array.getD_eq_getD_getElem?] at q0; exact does_val (want_none rfl) (by go_simp) rfl)
    · (refine .inl ?_; exact does_val (want_some (b := true) (g := 12) (dg := 19) rfl (by kernel_rfl) (by rw [pre.size]; simp) (pre.val 12 19 (by kernel_rfl) (by kernel_rfl))) (by go_simp) rfl)
    · (refine .inl ?_; exact does_val (want_some (b := true) (g := 12) (dg := 19) rfl (by kernel_rfl) (by rw [pre.size]; simp) (pre.val 12 19 (by kernel_rfl) (by kernel_rfl))) (by go_simp) rfl)
    · refine .inl ?_
      have q0 : a.eval (.tmp 20) = .agg #[.string ⟨#[97]⟩, .string ⟨#[]⟩] := pre.val 13 20 (by kernel_rfl) (by kernel_rfl)
      have q1 : a.eval (.tmp 21) = .agg #[.string ⟨#[98]⟩, .string ⟨#[]⟩] := pre.val 14 21 (by kernel_rfl) (by kernel_rfl)
      rw [Act.eval, Array.getD_eq_getD_getElem?] at q0 q1
      have hb_ : Below W.heap.size W (W.alloc (.cells (eCells abE).toArray 31)) := (by (first | assumption | (repeat (first | exact Below.refl _ _ | assumption | apply Below.drew | apply below_drewN | (refine Below.setCell ?_ (by (try simp) <;> omega) _) | (refine Below.alloc ?_ (by (try simp) <;> omega) _)))))
      have hK := Bk.new W 31 (eCells abE).toArray
      exact does_new (want_some (b := true) (g := 12) (dg := 19) rfl (by kernel_rfl) (by rw [pre.size]; simp) (pre.val 12 19 (by kernel_rfl) (by kernel_rfl))) (by go_simp; exact ⟨rfl, rfl⟩) hb_ ⟨_, 2, rfl, by decide, by unfold maxLen; omega, by rw [eCells_len], fun _ => ⟨W.heap.size, 0, rfl, by simp, fun j u hu => by rw [Nat.zero_add, hK.cell, List.getElem?_toArray]; exact hu⟩⟩
    · refine .inl ?_
      obtain ⟨A, c, e0, h1, h2, h3⟩ : EntsAt abE (a.eval (.tmp 22)) W := pre.val 15 22 (by kernel_rfl) (by kernel_rfl)
      have q0 : a.eval (.tmp 22) = .slice A 2 c := e0
      rw [Act.eval, Array.getD_eq_getD_getElem?] at q0
      have hrt : Calls Tryd.prog 10 #[.slice A 2 c] W _ := right_any A abE c W (by decide) (by
        intro e he
        rcases List.mem_cons.1 he with rfl | he
        · decide
        · rw [List.mem_singleton] at he; subst he; decide) h3
      rw [abE_asc] at hrt
      exact does_call (want_some (b := true) (g := 12) (dg := 19) rfl (by kernel_rfl) (by rw [pre.size]; simp) (pre.val 12 19 (by kernel_rfl) (by kernel_rfl))) (by go_simp) hrt (fun _ => rfl)
    · (refine .inl ?_; have q0 : a.eval (.tmp 19) = .bool true := pre.val 12 19 (by kernel_rfl) (by kernel_rfl); have q1 : a.eval (.tmp 23) = .bool true := pre.val 16 23 (by kernel_rfl) (by kernel_rfl); rw [Act.eval, Array.getD_eq_getD_getElem?] at q0 q1; exact does_val (want_none rfl) (by go_simp) rfl)
  case fin =>
    intro a W hbW hsz2 hd hv ho
    have q0 : a.eval (.tmp 24) = .bool true := hv 17 24 (by decide) (by kernel_rfl)
    rw [Act.eval, Array.getD_eq_getD_getElem?] at q0
    have hs8 : a.tmps.size = 25 := by rw [hsz2]; rfl
    obtain ⟨_, hbw⟩ := HW.out W hbW
    simp only [List.drop_succ_cons, List.drop_zero]
    go_wp2_with fail
    have hq : a.tmps[24]'(by omega) = .bool true := by rw [Array.getElem?_eq_getElem (by omega)] at q0; simpa using q0
    refine bodyPost_ret (results_tmp rfl _ _ _) (by first | rfl | exact hd) ?_
    exact ⟨congrArg Ending.returned (by simp [hs8, hq]), hbw⟩
end Go.Proofs.YtdeikpifflkabaaDoor

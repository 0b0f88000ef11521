/- What this text proves: the contracts of the reference's way and part. The conditions: no more entries, and no longer texts, than are asked about; how they lie in memory. which entries the reference proves; the contract of the reference's Prove. The conditions: no more entries, and no longer texts, than are asked about; how they lie in memory. the contract of the reference's Prove (the walk). The conditions: no more entries, and no longer texts, than are asked about; how they lie in memory. the contract of the reference's Same at two proofs that read alike. The conditions: how they lie in memory. -/
import Derived.Test.YtdeikpifflkabaaDoorMerProve
import Derived.Deep.CutBlock
namespace Go.Proofs.YtdeikpifflkabaaDoor
open Go.RowKit Go.Shelf
set_option linter.unusedVariables false
set_option linter.unusedSimpArgs false

attribute [local irreducible] digF
set_option maxRecDepth 100000 in
set_option maxHeartbeats 8000000 in
theorem rway_any : ∀ (n : Nat) (l : List Ent) (i : Nat) (A : Option Addr) (c : Nat) (w : World), l.length = n → i < n → n ≤ 70 → n ≤ c → c ≤ maxLen → Fits l → Sl w w.heap.size 2 A l.length (eCells l) →
    Calls Tryd.prog 58 #[.slice A n c, .int .i64 (i : Int)] w fun e w' => ∃ v, e = .returned v ∧ PathV w.heap.size (wayE l i) v w' ∧ Below w.heap.size w w' := by
  intro n
  induction n using Nat.strongRecOn with
  | _ n ih =>
  intro l i A c w hn hi h70 hc hcm hf hA
  have h0l : (bts hash0).length = 32 := by rw [bts_len, hash0_len]
  have HA := Lib.hid hA
  have HF := Lib.hid hf
  have IH := Lib.hid ih
  obtain ⟨N, hN⟩ : ∃ N, w.heap.size = N := ⟨_, rfl⟩
  have HNN := Lib.hid hN
  obtain ⟨i0, hii, hz0, hz1, hz2⟩ := info_parts hash_info
  clear hA hf ih hN
  unfold maxLen at hcm
  by_cases hn1 : n = 1
  · subst hn1
    have HWY : Hid (wayE l i = []) := Lib.hid (wayE_end (by omega))
    go_enter Tryd.func58, Tryd.ntmps58
    go_wp2_with fail
    go_ret
    refine ⟨_, rfl, ⟨none, 0, by rw [HWY.out]; rfl, ?_⟩, Below.refl _ _⟩
    rw [HWY.out]
    exact World.ownsRow_nil _ _ _ _
  · have h2 : 2 ≤ l.length := by omega
    obtain ⟨k, hk⟩ : ∃ k, splitN l.length = k := ⟨_, rfl⟩
    have hkn := splitN_lt h2
    have hk1 := splitN_pos l.length
    rw [hk] at hkn hk1
    have hsp := rsplit_any n (by omega) (by omega)
    rw [← hn, hk] at hsp
    rw [hn] at hsp hkn
    have HSP := Lib.hid hsp
    have e1 : ((n : Int) == 1) = false := by simp; omega
    obtain ⟨b, off, rfl, hbb, _⟩ := HA.out.2 (by omega)
    clear hsp
    by_cases hik : i < k
    · have e2 : decide ((i : Int) < (k : Int)) = true := decide_eq_true (by omega)
      obtain ⟨U, hU⟩ : ∃ U, rootE (l.drop k) = U := ⟨_, rfl⟩
      have hUl : U.length = 32 := by rw [← hU, rootE_len]
      have hbU : (bts U).length = 32 := by rw [bts_len, hUl]
      obtain ⟨path1, hp1⟩ : ∃ p, wayE (l.take k) i = p := ⟨_, rfl⟩
      have h1len : path1.length ≤ 70 := by
        rw [← hp1, wayE_len _ _ _ rfl]
        have := turnsL_deep 7 (l.take k).length i (by rw [List.length_take]; omega)
        omega
      have HWY : Hid (wayE l i = path1 ++ [U]) := Lib.hid (by rw [wayE_left h2 (by rw [hk]; exact hik), hk, hp1, hU])
      have HREC := Lib.hid (show ∀ W, Below w.heap.size w W → Calls Tryd.prog 58 #[.slice (some ⟨b, off, none⟩) k c, .int .i64 (i : Int)] W fun e w' => ∃ v, e = .returned v ∧ PathV N path1 v w' ∧ Below W.heap.size W w' from fun W hbW => by
        have hs := HA.out.etake (k := k) (by omega)
        refine (IH.out k (by omega) (l.take k) i _ c W (by rw [List.length_take]; omega) (by omega) (by omega) (by omega) (by unfold maxLen; omega) (HF.out.take k) ((hs.below hbW).more hbW.size)).mono ?_
        rintro e w' ⟨v, rfl, ⟨A', c', rfl, hq⟩, hb⟩
        rw [hp1] at hq ⊢
        exact ⟨_, rfl, ⟨A', c', rfl, (show World.ownsRow _ _ _ _ _ _ _ from hq).mono (by have := hbW.size; have := HNN.out; omega)⟩, hb⟩)
      have HROOT := Lib.hid (show ∀ W, Below w.heap.size w W → Calls Tryd.prog 32 #[.slice (some ⟨b, off + k * 2, none⟩) ((n : Int) - (k : Int)).toNat ((c : Int) - (k : Int)).toNat] W fun e w' => e = .returned (.agg (bts U).toArray) ∧ Below W.heap.size W w' from fun W hbW => by
        rw [show ((n : Int) - (k : Int)).toNat = n - k by omega, show ((c : Int) - (k : Int)).toNat = c - k by omega]
        have hs := edrop_at (cap := c) HA.out (k := k) (by omega) (by omega) (by omega)
        rw [← hU]
        exact mroot_any (n - k) (l.drop k) _ (c - k) W (by rw [List.length_drop]; omega) (by omega) (by omega) (by unfold maxLen; omega) (HF.out.drop k) ((hs.below hbW).more hbW.size))
      clear hU hp1
      go_enter Tryd.func58, Tryd.ntmps58
      go_wp2_with (go_at_call 30; with_reducible refine (HSP.out _).mono ?_; rintro e w1 ⟨rfl, hw1⟩; rw [hw1]; clear hw1)
      have HW : Hid (∀ W, Below w.drew.heap.size w.drew W → Below w.heap.size w W ∧ N ≤ W.heap.size) := Lib.hid (fun W hW =>
        have hd : Below w.heap.size w w.drew := (Below.refl _ _).drew
        have h1 : Below w.heap.size w W := hd.trans (hW.mono hd.size)
        ⟨h1, by have := h1.size; have := HNN.out; omega⟩)
      refine wp_region_part [0, 1, 2, 3, 4, 5, 6, 7, 8, 9] [] [10, 11] (lstV [fun x _ => x = .slice (some ⟨b, off, none⟩) n c, fun x _ => x = .int .i64 (k : Int), fun x _ => x = .slice (some ⟨b, off, none⟩) k c, fun x _ => x = .int .i64 (i : Int), PathV N path1, fun x _ => x = .slice (some ⟨b, off, none⟩) n c, fun x _ => x = .int .i64 (k : Int), fun x _ => x = .slice (some ⟨b, off + k * 2, none⟩) ((n : Int) - (k : Int)).toNat ((c : Int) - (k : Int)).toNat, fun x _ => x = .agg (bts U).toArray, OneH N U]) (by kernel_rfl) (by kernel_rfl) (lstV_on (by repeat' (first | exact forall_nil | refine forall_cons ?_ ?_ | exact stays_oneh _ _ | exact stays_pathv _ _ | exact stays_eq _))) ?turns ?hq trivial ?fin
      case hq => intro c_ a_ d_ v_ w_ h_; cases d_ <;> exact h_
      case turns =>
        refine ⟨fun o ho a W pre => ?_, fun o ho a W pre => ?_, fun o ho a W pre => ?_, fun o ho a W pre => ?_, fun o ho a W pre => ?_, fun o ho a W pre => ?_, fun o ho a W pre => ?_, fun o ho a W pre => ?_, fun o ho a W pre => ?_, fun o ho a W pre => ?_, trivial⟩
        all_goals (obtain rfl := (Option.some.inj ho).symm; clear ho)
        · (refine .inl ?_; have q0 : a.eval (.tmp 0) = .slice (some ⟨b, off, none⟩) n c := pre.was 0 (by kernel_rfl) rfl; rw [Act.eval, Array.getD_eq_getD_getElem?] at q0; exact does_val (want_none rfl) (by go_simp) rfl)
        · (refine .inl ?_; have q0 : a.eval (.tmp 5) = .int .i64 (k : Int) := pre.was 5 (by kernel_rfl) rfl; rw [Act.eval, Array.getD_eq_getD_getElem?] at q0; exact does_val (want_none rfl) (by go_simp) rfl)
        · refine .inl ?_
          have q0 : a.eval (.tmp 15) = .slice (some ⟨b, off, none⟩) n c := pre.val 0 15 (by kernel_rfl) (by kernel_rfl)
          have q1 : a.eval (.tmp 16) = .int .i64 (k : Int) := pre.val 1 16 (by kernel_rfl) (by kernel_rfl)
          rw [Act.eval, Array.getD_eq_getD_getElem?] at q0 q1
          have hkn' : (k : Int) ≤ (n : Int) := by omega
          have hkc : ¬ c = k := by omega
          have hkc' : k ≤ c := by omega
          have hk0 : ¬ k = 0 := by omega
          exact does_val (want_none rfl) (by go_simp) rfl
        · (refine .inl ?_; have q0 : a.eval (.tmp 1) = .int .i64 (i : Int) := pre.was 1 (by kernel_rfl) rfl; rw [Act.eval, Array.getD_eq_getD_getElem?] at q0; exact does_val (want_none rfl) (by go_simp) rfl)
        · refine .inl ?_
          have q0 : a.eval (.tmp 17) = .slice (some ⟨b, off, none⟩) k c := pre.val 2 17 (by kernel_rfl) (by kernel_rfl)
          have q1 : a.eval (.tmp 18) = .int .i64 (i : Int) := pre.val 3 18 (by kernel_rfl) (by kernel_rfl)
          rw [Act.eval, Array.getD_eq_getD_getElem?] at q0 q1
          exact does_callx (want_none rfl) (by go_simp) (HREC.out W (HW.out W pre.b).1)
        · (refine .inl ?_; have q0 : a.eval (.tmp 0) = .slice (some ⟨b, off, none⟩) n c := pre.was 0 (by kernel_rfl) rfl; rw [Act.eval, Array.getD_eq_getD_getElem?] at q0; exact does_val (want_none rfl) (by go_simp) rfl)
        · (refine .inl ?_; have q0 : a.eval (.tmp 5) = .int .i64 (k : Int) := pre.was 5 (by kernel_rfl) rfl; rw [Act.eval, Array.getD_eq_getD_getElem?] at q0; exact does_val (want_none rfl) (by go_simp) rfl)
        · refine .inl ?_
          have q0 : a.eval (.tmp 20) = .slice (some ⟨b, off, none⟩) n c := pre.val 5 20 (by kernel_rfl) (by kernel_rfl)
          have q1 : a.eval (.tmp 21) = .int .i64 (k : Int) := pre.val 6 21 (by kernel_rfl) (by kernel_rfl)
          rw [Act.eval, Array.getD_eq_getD_getElem?] at q0 q1
          have hkn' : (k : Int) ≤ (n : Int) := by omega
          have hkc : ¬ c = k := by omega
          have hkc' : k ≤ c := by omega
          have hk0 : ¬ k = 0 := by omega
          exact does_val (want_none rfl) (by go_simp) rfl
        · refine .inl ?_
          have q0 : a.eval (.tmp 22) = .slice (some ⟨b, off + k * 2, none⟩) ((n : Int) - (k : Int)).toNat ((c : Int) - (k : Int)).toNat := pre.val 7 22 (by kernel_rfl) (by kernel_rfl)
          rw [Act.eval, Array.getD_eq_getD_getElem?] at q0
          exact does_call (want_none rfl) (by go_simp) (HROOT.out W (HW.out W pre.b).1) (fun _ => rfl)
        · refine .inl ?_
          have q0 : a.eval (.tmp 23) = .agg (bts U).toArray := pre.val 8 23 (by kernel_rfl) (by kernel_rfl)
          have hb_ : Below W.heap.size W (W.alloc (.cells (bts U).toArray 26)) := (by (first | assumption | (repeat (first | exact Below.refl _ _ | assumption | apply Below.drew | apply below_drewN | (refine Below.setCell ?_ (by (try simp) <;> omega) _) | (refine Below.alloc ?_ (by (try simp) <;> omega) _)))))
          exact does_new (want_none rfl) (run_slice_one 39 26 _ rfl Tryd.underlying39 (bts U) q0 32 hbU (by omega) (by omega) (fun w => Tryd.sizeOf26 w) _ (fun w => zero_hash w)) hb_ ⟨W.heap.size, rfl, (HW.out W pre.b).2, Bk.new W _ _⟩
      case fin =>
        intro a W hbW hsz2 hd hv ho
        obtain ⟨hbw, hzw⟩ := HW.out W hbW
        have BW := Lib.hid hbw
        have ZW := Lib.hid hzw
        obtain ⟨T, D⟩ := a
        obtain rfl : D = _ := hd
        have hs8 : T.size = 39 := by rw [hsz2]; rfl
        obtain ⟨A1, c1, q1, q1p⟩ : PathV N path1 (T.getD 19 undef) W := hv 4 19 (by decide) (by kernel_rfl)
        obtain ⟨gq, q2, q2n, q2k⟩ : OneH N U (T.getD 24 undef) W := hv 9 24 (by decide) (by kernel_rfl)
        have SL : Hid (Sl W W.heap.size 32 (some ⟨gq, 0, none⟩) 1 (bts U)) := Lib.hid ⟨by rw [hbU], fun _ => ⟨gq, 0, rfl, q2k.lt, fun j u hu => by rw [Nat.zero_add, q2k.cell, List.getElem?_toArray]; exact hu⟩⟩
        have ROW : Hid (W.ownsRow N 26 32 (.slice A1 path1.length c1) path1.length (hCells path1)) := Lib.hid q1p
        obtain ⟨f, hf⟩ : ∃ f : Nat → Value, ∀ i, T.getD i undef = f i := ⟨_, fun _ => rfl⟩
        have hT := lit_of hs8 f hf
        rw [hf] at q1 q2
        simp only [List.range, List.range.loop, List.map_cons, List.map_nil, q1, q2] at hT
        clear hf q1 q2 q1p q2k q2n hs8 hsz2 hv ho hbW hbw hzw HW HROOT HREC
        subst hT
        simp only [List.filterMap_cons, List.filterMap_nil, List.getElem?_toArray, List.getElem?_cons_succ, List.getElem?_cons_zero]
        show wpList _ _ _ (_ :: _ :: []) _ _
        refine wpList_append_sl _ (by rfl) _ _ 39 (by rfl) N 26 i0 _ 32 32 Tryd.underlying39 hii hz0 hz1 hz2 h0l (by omega) (.slice A1 path1.length c1) path1.length (hCells path1) (by rfl) ROW.out (some ⟨gq, 0, none⟩) 1 1 (bts U) (by rfl) SL.out bts_one (by unfold maxLen; omega) (by omega) ZW.out ?_
        intro v5 w5_ ho_ hg_ hv_
        obtain ⟨g5, cap5, rfl⟩ := ownsRow_succ ho_
        have O5 := Lib.hid ho_
        have B5 : Hid (Below w.heap.size w w5_) := Lib.hid (BW.out.grown hg_ BW.out.size (fun k hk => by have := (own_cells ROW.out hk).1; have := HNN.out; omega))
        clear ho_ hg_ hv_ SL
        go_wp2_with fail
        go_ret
        refine ⟨_, rfl, ⟨_, cap5, by rw [HWY.out, List.length_append]; rfl, ?_⟩, B5.out⟩
        show World.ownsRow _ _ _ _ _ _ _
        rw [HWY.out, hCells_snoc, List.length_append]
        have := O5.out
        rw [← HNN.out] at this
        exact this
    · have e2 : decide ((i : Int) < (k : Int)) = false := decide_eq_false (by omega)
      obtain ⟨U, hU⟩ : ∃ U, rootE (l.take k) = U := ⟨_, rfl⟩
      have hUl : U.length = 32 := by rw [← hU, rootE_len]
      have hbU : (bts U).length = 32 := by rw [bts_len, hUl]
      obtain ⟨path1, hp1⟩ : ∃ p, wayE (l.drop k) (i - k) = p := ⟨_, rfl⟩
      have h1len : path1.length ≤ 70 := by
        rw [← hp1, wayE_len _ _ _ rfl]
        have := turnsL_deep 7 (l.drop k).length (i - k) (by rw [List.length_drop]; omega)
        omega
      have HWY : Hid (wayE l i = path1 ++ [U]) := Lib.hid (by rw [wayE_right h2 (by rw [hk]; exact hik), hk, hp1, hU])
      have HREC := Lib.hid (show ∀ W, Below w.heap.size w W → Calls Tryd.prog 58 #[.slice (some ⟨b, off + k * 2, none⟩) ((n : Int) - (k : Int)).toNat ((c : Int) - (k : Int)).toNat, .int .i64 ((i : Int) - (k : Int))] W fun e w' => ∃ v, e = .returned v ∧ PathV N path1 v w' ∧ Below W.heap.size W w' from fun W hbW => by
        rw [show ((n : Int) - (k : Int)).toNat = n - k by omega, show ((c : Int) - (k : Int)).toNat = c - k by omega, show (i : Int) - (k : Int) = ((i - k : Nat) : Int) by omega]
        have hs := edrop_at (cap := c) HA.out (k := k) (by omega) (by omega) (by omega)
        refine (IH.out (n - k) (by omega) (l.drop k) (i - k) _ (c - k) W (by rw [List.length_drop]; omega) (by omega) (by omega) (by omega) (by unfold maxLen; omega) (HF.out.drop k) ((hs.below hbW).more hbW.size)).mono ?_
        rintro e w' ⟨v, rfl, ⟨A', c', rfl, hq⟩, hb⟩
        rw [hp1] at hq ⊢
        exact ⟨_, rfl, ⟨A', c', rfl, (show World.ownsRow _ _ _ _ _ _ _ from hq).mono (by have := hbW.size; have := HNN.out; omega)⟩, hb⟩)
      have HROOT := Lib.hid (show ∀ W, Below w.heap.size w W → Calls Tryd.prog 32 #[.slice (some ⟨b, off, none⟩) k c] W fun e w' => e = .returned (.agg (bts U).toArray) ∧ Below W.heap.size W w' from fun W hbW => by
        have hs := HA.out.etake (k := k) (by omega)
        rw [← hU]
        exact mroot_any k (l.take k) _ c W (by rw [List.length_take]; omega) (by omega) (by omega) (by unfold maxLen; omega) (HF.out.take k) ((hs.below hbW).more hbW.size))
      clear hU hp1
      go_enter Tryd.func58, Tryd.ntmps58
      go_wp2_with (go_at_call 30; with_reducible refine (HSP.out _).mono ?_; rintro e w1 ⟨rfl, hw1⟩; rw [hw1]; clear hw1)
      have HW : Hid (∀ W, Below w.drew.heap.size w.drew W → Below w.heap.size w W ∧ N ≤ W.heap.size) := Lib.hid (fun W hW =>
        have hd : Below w.heap.size w w.drew := (Below.refl _ _).drew
        have h1 : Below w.heap.size w W := hd.trans (hW.mono hd.size)
        ⟨h1, by have := h1.size; have := HNN.out; omega⟩)
      refine wp_region_part [0, 1, 2, 3, 4, 5, 6, 7, 8, 9, 10, 11] [] [12, 13] (lstV [fun x _ => x = .slice (some ⟨b, off, none⟩) n c, fun x _ => x = .int .i64 (k : Int), fun x _ => x = .slice (some ⟨b, off + k * 2, none⟩) ((n : Int) - (k : Int)).toNat ((c : Int) - (k : Int)).toNat, fun x _ => x = .int .i64 (i : Int), fun x _ => x = .int .i64 (k : Int), fun x _ => x = .int .i64 ((i : Int) - (k : Int)), PathV N path1, fun x _ => x = .slice (some ⟨b, off, none⟩) n c, fun x _ => x = .int .i64 (k : Int), fun x _ => x = .slice (some ⟨b, off, none⟩) k c, fun x _ => x = .agg (bts U).toArray, OneH N U]) (by kernel_rfl) (by kernel_rfl) (lstV_on (by repeat' (first | exact forall_nil | refine forall_cons ?_ ?_ | exact stays_oneh _ _ | exact stays_pathv _ _ | exact stays_eq _))) ?turns ?hq trivial ?fin
      case hq => intro c_ a_ d_ v_ w_ h_; cases d_ <;> exact h_
      case turns =>
        refine ⟨fun o ho a W pre => ?_, fun o ho a W pre => ?_, fun o ho a W pre => ?_, fun o ho a W pre => ?_, fun o ho a W pre => ?_, fun o ho a W pre => ?_, fun o ho a W pre => ?_, fun o ho a W pre => ?_, fun o ho a W pre => ?_, fun o ho a W pre => ?_, fun o ho a W pre => ?_, fun o ho a W pre => ?_, trivial⟩
        all_goals (obtain rfl := (Option.some.inj ho).symm; clear ho)
        · (refine .inl ?_; have q0 : a.eval (.tmp 0) = .slice (some ⟨b, off, none⟩) n c := pre.was 0 (by kernel_rfl) rfl; rw [Act.eval, Array.getD_eq_getD_getElem?] at q0; exact does_val (want_none rfl) (by go_simp) rfl)
        · (refine .inl ?_; have q0 : a.eval (.tmp 5) = .int .i64 (k : Int) := pre.was 5 (by kernel_rfl) rfl; rw [Act.eval, Array.getD_eq_getD_getElem?] at q0; exact does_val (want_none rfl) (by go_simp) rfl)
        · refine .inl ?_
          have q0 : a.eval (.tmp 26) = .slice (some ⟨b, off, none⟩) n c := pre.val 0 26 (by kernel_rfl) (by kernel_rfl)
          have q1 : a.eval (.tmp 27) = .int .i64 (k : Int) := pre.val 1 27 (by kernel_rfl) (by kernel_rfl)
          rw [Act.eval, Array.getD_eq_getD_getElem?] at q0 q1
          have hkn' : (k : Int) ≤ (n : Int) := by omega
          have hkc : ¬ c = k := by omega
          have hkc' : k ≤ c := by omega
          have hk0 : ¬ k = 0 := by omega
          exact does_val (want_none rfl) (by go_simp) rfl
        · (refine .inl ?_; have q0 : a.eval (.tmp 1) = .int .i64 (i : Int) := pre.was 1 (by kernel_rfl) rfl; rw [Act.eval, Array.getD_eq_getD_getElem?] at q0; exact does_val (want_none rfl) (by go_simp) rfl)
        · (refine .inl ?_; have q0 : a.eval (.tmp 5) = .int .i64 (k : Int) := pre.was 5 (by kernel_rfl) rfl; rw [Act.eval, Array.getD_eq_getD_getElem?] at q0; exact does_val (want_none rfl) (by go_simp) rfl)
        · refine .inl ?_
          have q0 : a.eval (.tmp 29) = .int .i64 (i : Int) := pre.val 3 29 (by kernel_rfl) (by kernel_rfl)
          have q1 : a.eval (.tmp 30) = .int .i64 (k : Int) := pre.val 4 30 (by kernel_rfl) (by kernel_rfl)
          rw [Act.eval, Array.getD_eq_getD_getElem?] at q0 q1
          have e5 : IntKind.i64.wrap ((i : Int) - (k : Int)) = (i : Int) - (k : Int) := IntWalk.i64_in _ (by omega)
          exact does_val (want_none rfl) (by go_simp) rfl
        · refine .inl ?_
          have q0 : a.eval (.tmp 28) = .slice (some ⟨b, off + k * 2, none⟩) ((n : Int) - (k : Int)).toNat ((c : Int) - (k : Int)).toNat := pre.val 2 28 (by kernel_rfl) (by kernel_rfl)
          have q1 : a.eval (.tmp 31) = .int .i64 ((i : Int) - (k : Int)) := pre.val 5 31 (by kernel_rfl) (by kernel_rfl)
          rw [Act.eval, Array.getD_eq_getD_getElem?] at q0 q1
          exact does_callx (want_none rfl) (by go_simp) (HREC.out W (HW.out W pre.b).1)
        · (refine .inl ?_; have q0 : a.eval (.tmp 0) = .slice (some ⟨b, off, none⟩) n c := pre.was 0 (by kernel_rfl) rfl; rw [Act.eval, Array.getD_eq_getD_getElem?] at q0; exact does_val (want_none rfl) (by go_simp) rfl)
        · (refine .inl ?_; have q0 : a.eval (.tmp 5) = .int .i64 (k : Int) := pre.was 5 (by kernel_rfl) rfl; rw [Act.eval, Array.getD_eq_getD_getElem?] at q0; exact does_val (want_none rfl) (by go_simp) rfl)
        · refine .inl ?_
          have q0 : a.eval (.tmp 33) = .slice (some ⟨b, off, none⟩) n c := pre.val 7 33 (by kernel_rfl) (by kernel_rfl)
          have q1 : a.eval (.tmp 34) = .int .i64 (k : Int) := pre.val 8 34 (by kernel_rfl) (by kernel_rfl)
          rw [Act.eval, Array.getD_eq_getD_getElem?] at q0 q1
          have hkn' : (k : Int) ≤ (n : Int) := by omega
          have hkc : ¬ c = k := by omega
          have hkc' : k ≤ c := by omega
          have hk0 : ¬ k = 0 := by omega
          exact does_val (want_none rfl) (by go_simp) rfl
        · refine .inl ?_
          have q0 : a.eval (.tmp 35) = .slice (some ⟨b, off, none⟩) k c := pre.val 9 35 (by kernel_rfl) (by kernel_rfl)
          rw [Act.eval, Array.getD_eq_getD_getElem?] at q0
          exact does_call (want_none rfl) (by go_simp) (HROOT.out W (HW.out W pre.b).1) (fun _ => rfl)
        · refine .inl ?_
          have q0 : a.eval (.tmp 36) = .agg (bts U).toArray := pre.val 10 36 (by kernel_rfl) (by kernel_rfl)
          have hb_ : Below W.heap.size W (W.alloc (.cells (bts U).toArray 26)) := (by (first | assumption | (repeat (first | exact Below.refl _ _ | assumption | apply Below.drew | apply below_drewN | (refine Below.setCell ?_ (by (try simp) <;> omega) _) | (refine Below.alloc ?_ (by (try simp) <;> omega) _)))))
          exact does_new (want_none rfl) (run_slice_one 39 26 _ rfl Tryd.underlying39 (bts U) q0 32 hbU (by omega) (by omega) (fun w => Tryd.sizeOf26 w) _ (fun w => zero_hash w)) hb_ ⟨W.heap.size, rfl, (HW.out W pre.b).2, Bk.new W _ _⟩
      case fin =>
        intro a W hbW hsz2 hd hv ho
        obtain ⟨hbw, hzw⟩ := HW.out W hbW
        have BW := Lib.hid hbw
        have ZW := Lib.hid hzw
        obtain ⟨T, D⟩ := a
        obtain rfl : D = _ := hd
        have hs8 : T.size = 39 := by rw [hsz2]; rfl
        obtain ⟨A1, c1, q1, q1p⟩ : PathV N path1 (T.getD 32 undef) W := hv 6 32 (by decide) (by kernel_rfl)
        obtain ⟨gq, q2, q2n, q2k⟩ : OneH N U (T.getD 37 undef) W := hv 11 37 (by decide) (by kernel_rfl)
        have SL : Hid (Sl W W.heap.size 32 (some ⟨gq, 0, none⟩) 1 (bts U)) := Lib.hid ⟨by rw [hbU], fun _ => ⟨gq, 0, rfl, q2k.lt, fun j u hu => by rw [Nat.zero_add, q2k.cell, List.getElem?_toArray]; exact hu⟩⟩
        have ROW : Hid (W.ownsRow N 26 32 (.slice A1 path1.length c1) path1.length (hCells path1)) := Lib.hid q1p
        obtain ⟨f, hf⟩ : ∃ f : Nat → Value, ∀ i, T.getD i undef = f i := ⟨_, fun _ => rfl⟩
        have hT := lit_of hs8 f hf
        rw [hf] at q1 q2
        simp only [List.range, List.range.loop, List.map_cons, List.map_nil, q1, q2] at hT
        clear hf q1 q2 q1p q2k q2n hs8 hsz2 hv ho hbW hbw hzw HW HROOT HREC
        subst hT
        simp only [List.filterMap_cons, List.filterMap_nil, List.getElem?_toArray, List.getElem?_cons_succ, List.getElem?_cons_zero]
        show wpList _ _ _ (_ :: _ :: []) _ _
        refine wpList_append_sl _ (by rfl) _ _ 39 (by rfl) N 26 i0 _ 32 32 Tryd.underlying39 hii hz0 hz1 hz2 h0l (by omega) (.slice A1 path1.length c1) path1.length (hCells path1) (by rfl) ROW.out (some ⟨gq, 0, none⟩) 1 1 (bts U) (by rfl) SL.out bts_one (by unfold maxLen; omega) (by omega) ZW.out ?_
        intro v5 w5_ ho_ hg_ hv_
        obtain ⟨g5, cap5, rfl⟩ := ownsRow_succ ho_
        have O5 := Lib.hid ho_
        have B5 : Hid (Below w.heap.size w w5_) := Lib.hid (BW.out.grown hg_ BW.out.size (fun k hk => by have := (own_cells ROW.out hk).1; have := HNN.out; omega))
        clear ho_ hg_ hv_ SL
        go_wp2_with fail
        go_ret
        refine ⟨_, rfl, ⟨_, cap5, by rw [HWY.out, List.length_append]; rfl, ?_⟩, B5.out⟩
        show World.ownsRow _ _ _ _ _ _ _
        rw [HWY.out, hCells_snoc, List.length_append]
        have := O5.out
        rw [← HNN.out] at this
        exact this

theorem hi_part : (Tryd.prog.info? 41).map (·.size) = some 4 := by kernel_rfl
set_option maxRecDepth 100000 in
set_option maxHeartbeats 8000000 in
theorem rpart_any (l : List Ent) (n i : Nat) (hn : l.length = n) (e : Ent) (he : l[i]? = some e) (A : Option Addr) (c : Nat) (w : World) (hi : i < n) (h70 : n ≤ 70) (hc : n ≤ c) (hcm : c ≤ maxLen) (hf : Fits l) (hA : Sl w w.heap.size 2 A l.length (eCells l)) :
    Calls Tryd.prog 40 #[.slice A n c, .int .i64 (i : Int)] w fun en w' => ∃ v, en = .returned v ∧ AggP w.heap.size i e (wayE l i) v w' ∧ Below w.heap.size w w' := by
  obtain ⟨b, off, ke, va, rfl, hb, hck, hcv, hla⟩ := hA.ent (k := i) (by omega)
  rw [he] at hla
  obtain ⟨ek, ev⟩ := e
  injection hla with hla
  injection hla with hk hv
  subst hk
  subst hv
  obtain ⟨path, hpath⟩ : ∃ p, wayE l i = p := ⟨_, rfl⟩
  obtain ⟨N, hN⟩ : ∃ N, w.heap.size = N := ⟨_, rfl⟩
  have HNN := Lib.hid hN
  have HWAY := Lib.hid (show ∀ W, Below w.heap.size w W → N + 1 ≤ W.heap.size → Calls Tryd.prog 58 #[.slice (some ⟨b, off, none⟩) n c, .int .i64 (i : Int)] W fun e w' => ∃ v, e = .returned v ∧ PathV (N + 1) path v w' ∧ Below W.heap.size W w' from fun W hbW hNW => by
    refine (rway_any n l i _ c W hn hi h70 hc hcm hf ((hA.below hbW).more hbW.size)).mono ?_
    rintro e w' ⟨v, rfl, ⟨A', c', rfl, hq⟩, hb⟩
    rw [hpath] at hq ⊢
    exact ⟨_, rfl, ⟨A', c', rfl, (show World.ownsRow _ _ _ _ _ _ _ from hq).mono hNW⟩, hb⟩)
  rw [hpath]
  have CK := Lib.hid hck
  have CV := Lib.hid hcv
  clear hck hcv hA hf hN hpath
  go_enter Tryd.func40, Tryd.ntmps40
  go_upto_region 1 with fail
  have K1 := Bk.new w 41 #[.int .i64 0, .string ⟨#[]⟩, .string ⟨#[]⟩, .slice none 0 0]
  have L1 : Below w.heap.size w (w.alloc (.cells #[.int .i64 0, .string ⟨#[]⟩, .string ⟨#[]⟩, .slice none 0 0] 41)) := (by (first | assumption | (repeat (first | exact Below.refl _ _ | assumption | apply Below.drew | apply below_drewN | (refine Below.setCell ?_ (by (try simp) <;> omega) _) | (refine Below.alloc ?_ (by (try simp) <;> omega) _)))))
  obtain ⟨w1, hw1⟩ : ∃ W, w.alloc (.cells #[.int .i64 0, .string ⟨#[]⟩, .string ⟨#[]⟩, .slice none 0 0] 41) = W := ⟨_, rfl⟩
  rw [hw1] at K1 L1 ⊢
  rw [HNN.out] at K1 ⊢
  have HW : Hid (∀ W, Below w1.drew.heap.size w1.drew W → Bk W N 41 #[.int .i64 0, .string ⟨#[]⟩, .string ⟨#[]⟩, .slice none 0 0] ∧ W.cell? ⟨b, off + i * 2, none⟩ = some (.string ek) ∧ W.cell? ⟨b, off + i * 2 + 1, none⟩ = some (.string ev) ∧ Below w.heap.size w W ∧ N + 1 ≤ W.heap.size) := Lib.hid (fun W h =>
    have hd : Below w1.heap.size w1 w1.drew := (Below.refl _ _).drew
    have h1 : Below w.heap.size w W := (L1.trans (hd.mono L1.size)).trans (h.mono (L1.trans (hd.mono L1.size)).size)
    ⟨K1.drew.below h K1.drew.lt, (h1.cell (p := ⟨b, off + i * 2, none⟩) hb).trans CK.out, (h1.cell (p := ⟨b, off + i * 2 + 1, none⟩) hb).trans CV.out, h1, by have := h.size; have := K1.lt; have := hd.size; omega⟩)
  clear hw1 K1 L1
  refine wp_region_part [0, 1, 2, 3, 4, 5, 6, 7, 8] [] [9] (lstV [fun x _ => x = .int .i64 (i : Int), fun x _ => x = .slice (some ⟨b, off, none⟩) n c, fun x _ => x = .int .i64 (i : Int), fun x _ => x = .pointer (some ⟨b, off + i * 2, none⟩), fun x _ => x = .agg #[.string ek, .string ev], fun x _ => x = .slice (some ⟨b, off, none⟩) n c, fun x _ => x = .int .i64 (i : Int), PathV (N + 1) path, AggP (N + 1) i (ek, ev) path]) (by kernel_rfl) (by kernel_rfl) (lstV_on (by repeat' (first | exact forall_nil | refine forall_cons ?_ ?_ | exact stays_pathv _ _ | exact stays_aggp _ _ _ _ | exact stays_eq _))) ?turns ?hq trivial ?fin
  case hq => intro c_ a_ d_ v_ w_ h_; cases d_ <;> exact h_
  case turns =>
    refine ⟨fun o ho a W pre => ?_, fun o ho a W pre => ?_, fun o ho a W pre => ?_, fun o ho a W pre => ?_, fun o ho a W pre => ?_, fun o ho a W pre => ?_, fun o ho a W pre => ?_, fun o ho a W pre => ?_, fun o ho a W pre => ?_, trivial⟩
    all_goals (obtain rfl := (Option.some.inj ho).symm; clear ho)
    · (refine .inl ?_; have q0 : a.eval (.tmp 1) = .int .i64 (i : Int) := pre.was 1 (by kernel_rfl) rfl; rw [Act.eval, Array.getD_eq_getD_getElem?] at q0; exact does_val (want_none rfl) (by go_simp) rfl)
    · (refine .inl ?_; have q0 : a.eval (.tmp 0) = .slice (some ⟨b, off, none⟩) n c := pre.was 0 (by kernel_rfl) rfl; rw [Act.eval, Array.getD_eq_getD_getElem?] at q0; exact does_val (want_none rfl) (by go_simp) rfl)
    · (refine .inl ?_; have q0 : a.eval (.tmp 1) = .int .i64 (i : Int) := pre.was 1 (by kernel_rfl) rfl; rw [Act.eval, Array.getD_eq_getD_getElem?] at q0; exact does_val (want_none rfl) (by go_simp) rfl)
    · refine .inl ?_
      have q0 : a.eval (.tmp 6) = .slice (some ⟨b, off, none⟩) n c := pre.val 1 6 (by kernel_rfl) (by kernel_rfl)
      have q1 : a.eval (.tmp 7) = .int .i64 (i : Int) := pre.val 2 7 (by kernel_rfl) (by kernel_rfl)
      rw [Act.eval, Array.getD_eq_getD_getElem?] at q0 q1
      have e3 : (i : Int) < (n : Int) := by omega
      exact does_val (want_none rfl) (by go_simp) rfl
    · have c1 := (HW.out W pre.b).2.1
      have c2 := (HW.out W pre.b).2.2.1
      (refine .inl ?_; have q0 : a.eval (.tmp 8) = .pointer (some ⟨b, off + i * 2, none⟩) := pre.val 3 8 (by kernel_rfl) (by kernel_rfl); rw [Act.eval, Array.getD_eq_getD_getElem?] at q0; exact does_val (want_none rfl) (by go_simp) rfl)
    · (refine .inl ?_; have q0 : a.eval (.tmp 0) = .slice (some ⟨b, off, none⟩) n c := pre.was 0 (by kernel_rfl) rfl; rw [Act.eval, Array.getD_eq_getD_getElem?] at q0; exact does_val (want_none rfl) (by go_simp) rfl)
    · (refine .inl ?_; have q0 : a.eval (.tmp 1) = .int .i64 (i : Int) := pre.was 1 (by kernel_rfl) rfl; rw [Act.eval, Array.getD_eq_getD_getElem?] at q0; exact does_val (want_none rfl) (by go_simp) rfl)
    · refine .inl ?_
      have q0 : a.eval (.tmp 10) = .slice (some ⟨b, off, none⟩) n c := pre.val 5 10 (by kernel_rfl) (by kernel_rfl)
      have q1 : a.eval (.tmp 11) = .int .i64 (i : Int) := pre.val 6 11 (by kernel_rfl) (by kernel_rfl)
      rw [Act.eval, Array.getD_eq_getD_getElem?] at q0 q1
      exact does_callx (want_none rfl) (by go_simp) (HWAY.out W (HW.out W pre.b).2.2.2.1 (HW.out W pre.b).2.2.2.2)
    · refine .inl ?_
      have q0 : a.eval (.tmp 5) = .int .i64 (i : Int) := pre.val 0 5 (by kernel_rfl) (by kernel_rfl)
      have q1 : a.eval (.tmp 9) = .agg #[.string ek, .string ev] := pre.val 4 9 (by kernel_rfl) (by kernel_rfl)
      obtain ⟨A', c', q2, q3⟩ : PathV (N + 1) path (a.eval (.tmp 12)) W := pre.val 7 12 (by kernel_rfl) (by kernel_rfl)
      rw [Act.eval, Array.getD_eq_getD_getElem?] at q0 q1 q2
      exact does_val (want_none rfl) (by go_simp) ⟨A', c', rfl, q3⟩
  case fin =>
    intro a W hbW hsz2 hd hv ho
    obtain ⟨A', c', qs, qp⟩ : AggP (N + 1) i (ek, ev) path (a.eval (.tmp 13)) W := hv 8 13 (by decide) (by kernel_rfl)
    have q4 : a.eval (.tmp 4) = .pointer (some ⟨N, 0, none⟩) := ho 4 (no_dst (by kernel_rfl))
    have hs8 : a.tmps.size = 14 := by rw [hsz2]; rfl
    obtain ⟨hbk, _, _, hbw, _⟩ := HW.out W hbW
    simp only at qs
    simp only [List.filterMap_cons, List.filterMap_nil, List.getElem?_toArray, List.getElem?_cons_succ, List.getElem?_cons_zero]
    show wpList _ _ _ (_ :: []) _ _
    refine wpList_puts (want_none rfl) 41 _ _ rfl N 0 q4 [.int .i64 (i : Int), .string ek, .string ev, .slice A' path.length c'] qs 41 [.int .i64 0, .string ⟨#[]⟩, .string ⟨#[]⟩, .slice none 0 0] hbk 4 rfl (by simp) hi_part (by simp [Value.oneCell']) ?_
    intro w7 hb7 hm7 hz7
    have HB7 := Lib.hid hb7
    have HM7 := Lib.hid hm7
    have HBW := Lib.hid hbw
    have p4 := q4
    rw [Act.eval] at p4
    have P4 := Lib.hid p4
    have QP := Lib.hid qp
    clear hb7 hm7 hbw hbk qs q4 p4 hbW hv ho qp
    go_wp2_with fail
    refine bodyPost_ret (results_cell_row rfl _ _ N 41 #[.int .i64 (i : Int), .string ek, .string ev, .slice A' path.length c'] (0, 0) _ (by exact P4.out) HB7.out Tryd.underlying41 rfl (by rw [hi_part]; rfl)) (by exact hd) ?_
    refine ⟨_, rfl, ⟨A', c', rfl, ?_⟩, HBW.out.trans (HM7.out.to_below HBW.out.size (fun k o e => by rw [e, HNN.out]; exact Nat.le_refl _))⟩
    rw [HNN.out]
    exact (HM7.out.own (show World.ownsRow _ _ _ _ _ _ _ from QP.out) (fun g cs h1 h2 => by omega)).mono (by omega)
end Go.Proofs.YtdeikpifflkabaaDoor

namespace Go.Proofs.YtdeikpifflkabaaDoor
open Go.RowKit Go.Shelf
set_option linter.unusedVariables false
set_option linter.unusedSimpArgs false

def nxF (l : List Ent) (key : ByteArray) (k : Nat) : Bool := match l[k + 1]? with
  | some e => ltK key e.1
  | none => true
def ahF (l : List Ent) (key : ByteArray) : Nat → Bool
  | 0 => true
  | k + 1 => match l[k]? with
    | some e => ltK e.1 key
    | none => false
def selF (l : List Ent) (key : ByteArray) (k : Nat) (e : Ent) : Bool := decide (e.1 = key) || (ltK e.1 key && nxF l key k) || (ltK key e.1 && ahF l key k)
def upto (n i : Nat) (f : Bool) (k : Nat) : List Nat := (idxs n i f).filter fun j => decide (j < k)
theorem upto_none (n i : Nat) (f : Bool) : upto n i f 0 = [] := by
  unfold upto
  rw [List.filter_eq_nil_iff]
  intro a _
  simp
theorem upto_all {n i : Nat} {f : Bool} (hi : i ≤ n) : upto n i f n = idxs n i f := by
  unfold upto
  rw [List.filter_eq_self]
  intro a ha
  unfold idxs at ha
  rcases List.mem_append.1 ha with ha | ha
  · split at ha
    · cases ha
    · split at ha
      · have := List.mem_singleton.1 ha
        simp; omega
      · cases ha
  · split at ha
    · have := List.mem_singleton.1 ha
      simp; omega
    · cases ha
theorem upto_lt {n i k : Nat} {f : Bool} (h : k + (if f then 0 else 1) < i + 1) (hk : k < i ∨ f = true) : upto n i f k = [] := by
  unfold upto
  rw [List.filter_eq_nil_iff]
  intro a ha
  unfold idxs at ha
  simp only [decide_eq_true_eq]
  cases f with
  | true =>
    simp at h
    rcases List.mem_append.1 ha with ha | ha
    · simp at ha
    · split at ha
      · have := List.mem_singleton.1 ha; omega
      · cases ha
  | false =>
    simp at h
    rcases List.mem_append.1 ha with ha | ha
    · simp at ha
      omega
    · split at ha
      · have := List.mem_singleton.1 ha; omega
      · cases ha
theorem upto_ge {n i k : Nat} {f : Bool} (h : i < k) : upto n i f k = idxs n i f := by
  unfold upto
  rw [List.filter_eq_self]
  intro a ha
  unfold idxs at ha
  simp only [decide_eq_true_eq]
  rcases List.mem_append.1 ha with ha | ha
  · split at ha
    · cases ha
    · split at ha
      · have := List.mem_singleton.1 ha; omega
      · cases ha
  · split at ha
    · have := List.mem_singleton.1 ha; omega
    · cases ha
theorem sel_is {l : List Ent} {key : ByteArray} {n i k : Nat} {e : Ent} (hn : l.length = n) (hs : RiseK l) (hlow : LowK l key i) (he : l[k]? = some e) :
    upto n i (foundK l key i) (k + 1) = if selF l key k e then upto n i (foundK l key i) k ++ [k] else upto n i (foundK l key i) k := by
  have hkn : k < n := by rw [← hn]; exact (List.getElem?_eq_some_iff.1 he).1
  cases hf : foundK l key i with
  | true =>
    obtain ⟨e0, he0, hk0, _⟩ := low_found hlow hf
    have hin : i < n := by rw [← hn]; exact (List.getElem?_eq_some_iff.1 he0).1
    have hid : idxs n i true = [i] := by unfold idxs; rw [if_pos rfl, if_pos hin]; rfl
    rcases Nat.lt_trichotomy k i with h | h | h
    · have h1 := hlow.lo k e h he
      have hnx : nxF l key k = false := by
        unfold nxF
        obtain ⟨e1, he1⟩ : ∃ e1, l[k + 1]? = some e1 := ⟨_, List.getElem?_eq_getElem (by omega)⟩
        rw [he1]
        by_cases h2 : k + 1 < i
        · exact ltK_asymm (hlow.lo _ _ h2 he1)
        · have : k + 1 = i := by omega
          rw [this, he0] at he1
          cases he1
          show ltK key e0.1 = false
          rw [hk0]
          exact ltK_irrefl key
      have hsel : selF l key k e = false := by
        unfold selF
        rw [decide_eq_false (ltK_ne h1), hnx, ltK_asymm h1, Bool.and_false, Bool.false_and]
        rfl
      rw [hsel, upto_lt (by simp; omega) (.inr rfl), upto_lt (by simp; omega) (.inr rfl)]
      rfl
    · subst h
      have : e = e0 := Option.some.inj (he.symm.trans he0)
      subst this
      have hsel : selF l key k e = true := by unfold selF; rw [decide_eq_true hk0]; rfl
      rw [hsel, upto_ge (by omega), upto_lt (by simp) (.inr rfl), hid]
      rfl
    · have h1 : ltK key e.1 = true := by rw [← hk0]; exact hs i k e0 e h he0 he
      have hah : ahF l key k = false := by
        obtain ⟨k0, rfl⟩ : ∃ k0, k = k0 + 1 := ⟨k - 1, by omega⟩
        obtain ⟨e1, he1⟩ : ∃ e1, l[k0]? = some e1 := ⟨_, List.getElem?_eq_getElem (by omega)⟩
        simp only [ahF, he1]
        exact hlow.hi k0 e1 (by omega) he1
      have hsel : selF l key k e = false := by
        unfold selF
        rw [decide_eq_false (ltK_ne h1).symm, hah, ltK_asymm h1, Bool.and_false, Bool.false_and]
        rfl
      rw [hsel, upto_ge (by omega), upto_ge h]
      rfl
  | false =>
    obtain ⟨_, hgt⟩ := low_not hs hlow hf
    rcases Nat.lt_trichotomy k i with h | h | h
    · have h1 := hlow.lo k e h he
      by_cases h2 : k + 1 < i
      · have hnx : nxF l key k = false := by
          unfold nxF
          have hle := hlow.le
          obtain ⟨e1, he1⟩ : ∃ e1, l[k + 1]? = some e1 := ⟨_, List.getElem?_eq_getElem (by omega)⟩
          rw [he1]
          exact ltK_asymm (hlow.lo _ _ h2 he1)
        have hsel : selF l key k e = false := by
          unfold selF
          rw [decide_eq_false (ltK_ne h1), hnx, ltK_asymm h1, Bool.and_false, Bool.false_and]
          rfl
        rw [hsel, upto_lt (by simp; omega) (.inl (by omega)), upto_lt (by simp; omega) (.inl (by omega))]
        rfl
      · obtain rfl : i = k + 1 := by omega
        have hnx : nxF l key k = true := by
          unfold nxF
          cases he1 : l[k + 1]? with
          | none => rfl
          | some e1 => exact hgt e1 he1
        have hsel : selF l key k e = true := by
          unfold selF
          rw [h1, hnx]
          simp
        rw [hsel, upto_lt (k := k) (by simp) (.inl (by omega))]
        unfold upto idxs
        rw [if_neg (by simp), if_pos (by omega)]
        by_cases h3 : k + 1 < n
        · rw [if_pos h3]; simp
        · rw [if_neg h3]; simp
    · subst h
      have h1 := hgt e he
      have hah : ahF l key k = true := by
        cases k with
        | zero => rfl
        | succ k0 =>
          obtain ⟨e1, he1⟩ : ∃ e1, l[k0]? = some e1 := ⟨_, List.getElem?_eq_getElem (by omega)⟩
          simp only [ahF, he1]
          exact hlow.lo k0 e1 (by omega) he1
      have hsel : selF l key k e = true := by
        unfold selF
        rw [h1, hah]
        simp
      rw [hsel, upto_ge (by omega)]
      unfold upto idxs
      rw [if_neg (by simp), if_pos hkn]
      by_cases h3 : 1 ≤ k
      · rw [if_pos h3, if_pos rfl, List.filter_append, List.filter_cons_of_pos (by simp; omega), List.filter_cons_of_neg (by simp)]
        rfl
      · rw [if_neg h3]; simp
    · obtain ⟨e0, he0⟩ : ∃ e0, l[i]? = some e0 := ⟨_, List.getElem?_eq_getElem (by omega)⟩
      have h1 : ltK key e.1 = true := ltK_trans (hgt e0 he0) (hs i k e0 e h he0 he)
      have hah : ahF l key k = false := by
        obtain ⟨k0, rfl⟩ : ∃ k0, k = k0 + 1 := ⟨k - 1, by omega⟩
        obtain ⟨e1, he1⟩ : ∃ e1, l[k0]? = some e1 := ⟨_, List.getElem?_eq_getElem (by omega)⟩
        simp only [ahF, he1]
        exact hlow.hi k0 e1 (by omega) he1
      have hsel : selF l key k e = false := by
        unfold selF
        rw [decide_eq_false (ltK_ne h1).symm, hah, ltK_asymm h1, Bool.and_false, Bool.false_and]
        rfl
      rw [hsel, upto_ge (by omega), upto_ge h]
      rfl
end Go.Proofs.YtdeikpifflkabaaDoor

namespace Go.Proofs.YtdeikpifflkabaaDoor
open Go.RowKit Go.Shelf
set_option linter.unusedVariables false
set_option linter.unusedSimpArgs false

theorem gt_form (a b : ByteArray) : (!Op.bytesLess a.toList b.toList && !(a.toList == b.toList)) = ltK b a := by
  rw [show Op.bytesLess a.toList b.toList = ltK a b from rfl, eqK]
  cases h : ltK a b with
  | true => rw [ltK_asymm h]; rfl
  | false =>
    cases h' : ltK b a with
    | true => rw [decide_eq_false (ltK_ne h').symm]; rfl
    | false => rw [decide_eq_true (ltK_total h h')]; rfl
/-- Where the reference's Prove is. -/
structure RS (w : World) (g gp N0 : Nat) (l : List Ent) (n : Nat) (js : List Nat) (W : World) : Prop where
  b : Below g w W
  kr : Bk W g 38 #[.int .i64 0, .slice none 0 0]
  big : N0 ≤ W.heap.size
  st : ∃ ps v, Bk W gp 38 #[.int .i64 (n : Int), v] ∧ PartsIn N0 ps v W ∧ PartsOf l ps js ∧ ps.length = js.length
theorem RS.done {w : World} {g gp N0 : Nat} {l : List Ent} {n : Nat} {js : List Nat} {W : World} (h : RS w g gp N0 l n js W) (hgw : w.heap.size = g) (hN : g < N0) :
    ∃ ps P c', Bk W gp 38 #[.int .i64 (n : Int), .slice P ps.length c'] ∧ PartsOf l ps js ∧ ∀ u1 u2, PartsIn g ps (.slice P ps.length c') ((W.setCell ⟨g, 0, none⟩ u1).setCell ⟨g, 1, none⟩ u2) ∧ Below g w ((W.setCell ⟨g, 0, none⟩ u1).setCell ⟨g, 1, none⟩ u2) := by
  obtain ⟨ps, v, a1, a2, a3, a4⟩ := h.st
  obtain ⟨P, cc, rfl, _⟩ := own_sl a2.row
  refine ⟨ps, P, cc, a1, a3, fun u1 u2 => ?_⟩
  have hm : Moves (fun k _ => k = g) W ((W.setCell ⟨g, 0, none⟩ u1).setCell ⟨g, 1, none⟩ u2) := (Moves.setCell W ⟨g, 0, none⟩ u1 (fun _ _ => rfl)).comp (Moves.setCell _ ⟨g, 1, none⟩ u2 (fun _ _ => rfl))
  exact ⟨PartsIn.less ⟨hm.own a2.row (fun q cs h1 h2 => by omega), fun p hp => hm.own (show World.ownsRow _ _ _ _ _ _ _ from a2.paths p hp) (fun q cs h1 h2 => by omega)⟩ (by omega), h.b.trans (hm.to_below (Nat.le_trans (by omega) h.big) (fun k o h => by omega))⟩
theorem RS.add {w : World} {g gp N0 : Nat} {l : List Ent} {n : Nat} {js : List Nat} {W W' : World} {k : Nat} {e : Ent} {ps : List PartV} {v v' : Value} {A' : Option Addr} {c' : Nat} (h : RS w g gp N0 l n js W) (hg : w.heap.size = g) (h1 : g < gp) (h2 : gp < N0) (he : l[k]? = some e)
    (a2 : PartsIn N0 ps v W) (a3 : PartsOf l ps js) (a4 : ps.length = js.length) (b1 : Bk W' gp 38 #[.int .i64 (n : Int), v']) (b2 : W'.ownsRow N0 41 4 v' (ps.length + 1) (pCells (ps ++ [⟨k, e, A', wayE l k, c'⟩]))) (b3 : PathAt N0 (wayE l k) A' c' W') (hm : Moves (AX gp N0) W W') : RS w g gp N0 l n (js ++ [k]) W' := by
  have hN := h.big
  refine ⟨h.b.trans (hm.to_below (by omega) ?_), hm.bk h.kr ?_, Nat.le_trans h.big hm.size, ps ++ [⟨k, e, A', wayE l k, c'⟩], v', b1, ⟨by rw [List.length_append]; exact b2, fun p hp => ?_⟩, a3.snoc (PartsOf.get he), by rw [List.length_append, List.length_append, a4]; rfl⟩
  · rintro q o (e1 | ⟨e1, _⟩) <;> omega
  · rintro (e1 | ⟨e1, _⟩) <;> omega
  · rcases List.mem_append.1 hp with hp | hp
    · exact (a2.paths p hp).moves hm (by omega)
    · rw [List.mem_singleton.1 hp]
      exact b3

attribute [local irreducible] digF
set_option maxRecDepth 100000 in
set_option maxHeartbeats 8000000 in
theorem rprove_bad (A : Option Addr) (l : List Ent) (n : Nat) (hn : l.length = n) (c : Nat) (key : ByteArray) (w : World) (hl : n ≤ 70) (hf : Fits l) (has : ascK l = false) (hA : Sl w w.heap.size 2 A l.length (eCells l)) :
    Calls Tryd.prog 19 #[.slice A n c, .string key] w fun e w' => e = .returned (.tuple #[.agg #[.int .i64 0, .slice none 0 0], .int .i64 51]) ∧ Below w.heap.size w w' := by
  subst hn
  have HA := Lib.hid hA
  have HF := Lib.hid hf
  have HAS := Lib.hid has
  obtain ⟨g, hg⟩ : ∃ x, w.heap.size = x := ⟨_, rfl⟩
  have HG := Lib.hid hg
  clear hA hf has
  go_enter Tryd.func19, Tryd.ntmps19
  go_upto_region 1 with fail
  have KR := Bk.new w 38 #[.int .i64 0, .slice none 0 0]
  have L1 : Below w.heap.size w (w.alloc (.cells #[.int .i64 0, .slice none 0 0] 38)) := (by (first | assumption | (repeat (first | exact Below.refl _ _ | assumption | apply Below.drew | apply below_drewN | (refine Below.setCell ?_ (by (try simp) <;> omega) _) | (refine Below.alloc ?_ (by (try simp) <;> omega) _)))))
  obtain ⟨w1, hw1⟩ : ∃ W, w.alloc (.cells #[.int .i64 0, .slice none 0 0] 38) = W := ⟨_, rfl⟩
  rw [hw1] at KR L1 ⊢
  rw [hg] at KR
  have HRT := Lib.hid (rright_any A l c w1 hl HF.out ((HA.out.below L1).more L1.size))
  rw [HAS.out] at HRT
  have K1 := Lib.hid KR
  have HL1 := Lib.hid L1
  clear hw1 hg KR L1
  go_wp2_with fail
  with_reducible refine HRT.out.mono ?_
  rintro e w2 ⟨rfl, hb2⟩
  have K2 := Lib.hid (K1.out.below hb2 K1.out.lt)
  have L2 := Lib.hid (HL1.out.trans (hb2.mono HL1.out.size))
  clear hb2 K1 HL1 HRT
  have c0 := K2.out.cell 0
  have c1 := K2.out.cell 1
  have f0 := K2.out.frozen 0
  have f1 := K2.out.frozen 1
  go_wp2_with fail
  have K3 := (K2.out.set_ 0 (.int .i64 0)).set_ 1 (.slice none 0 0)
  refine bodyPost_ret (results_cell2 rfl _ _ g 38 #[.int .i64 0, .slice none 0 0] (0, 0) _ (.int .i64 51) (by rfl) (by rfl) K3 Tryd.underlying38 rfl (by rw [hi_proof]; rfl)) rfl ?_
  have hg1 : w.heap.size ≤ g := by rw [HG.out]; omega
  exact ⟨rfl, (L2.out.setCell (by simp; omega) _).setCell (by simp; omega) _⟩

set_option maxRecDepth 100000 in
set_option maxHeartbeats 8000000 in
theorem rprove_any (A : Option Addr) (l : List Ent) (n : Nat) (hn : l.length = n) (c : Nat) (key : ByteArray) (i : Nat) (hlow : LowK l key i) (w : World) (hl : n ≤ 70) (hc : n ≤ c) (hcm : c ≤ maxLen) (hf : Fits l) (has : ascK l = true) (hA : Sl w w.heap.size 2 A l.length (eCells l)) :
    Calls Tryd.prog 19 #[.slice A n c, .string key] w fun e w' => ∃ ps P c', PartsOf l ps (idxs n i (foundK l key i)) ∧ e = .returned (.tuple #[.agg #[.int .i64 (n : Int), .slice P ps.length c'], .int .i64 0]) ∧ PartsIn w.heap.size ps (.slice P ps.length c') w' ∧ Below w.heap.size w w' := by
  have HA := Lib.hid hA
  have HF := Lib.hid hf
  have HAS := Lib.hid has
  have HN := Lib.hid hn
  have LOW := Lib.hid hlow
  have HCM := Lib.hid hcm
  obtain ⟨g, hg⟩ : ∃ x, w.heap.size = x := ⟨_, rfl⟩
  have HG := Lib.hid hg
  clear hA hf has hn hlow hcm
  go_enter Tryd.func19, Tryd.ntmps19
  go_upto_region 1 with fail
  have KR := Bk.new w 38 #[.int .i64 0, .slice none 0 0]
  have L1 : Below w.heap.size w (w.alloc (.cells #[.int .i64 0, .slice none 0 0] 38)) := (by (first | assumption | (repeat (first | exact Below.refl _ _ | assumption | apply Below.drew | apply below_drewN | (refine Below.setCell ?_ (by (try simp) <;> omega) _) | (refine Below.alloc ?_ (by (try simp) <;> omega) _)))))
  obtain ⟨w1, hw1⟩ : ∃ W, w.alloc (.cells #[.int .i64 0, .slice none 0 0] 38) = W := ⟨_, rfl⟩
  rw [hw1] at KR L1 ⊢
  rw [hg] at KR
  have HRT := Lib.hid (rright_any A l c w1 (by rw [HN.out]; exact hl) HF.out ((HA.out.below L1).more L1.size))
  rw [HAS.out, HN.out] at HRT
  have KR1 := Lib.hid KR
  have HL1 := Lib.hid L1
  clear hw1 hg KR L1
  go_wp2_with fail
  with_reducible refine HRT.out.mono ?_
  rintro e w2 ⟨rfl, hb2⟩
  have KR2 := Lib.hid (KR1.out.below hb2 KR1.out.lt)
  have L2 := Lib.hid (HL1.out.trans (hb2.mono HL1.out.size))
  clear hb2 KR1 HL1 HRT
  go_upto_region 5 with fail
  have KR3 := KR2.out.alloc (.cells #[.int .i64 (n : Int), .slice none 0 0] 38)
  have KP3 := Bk.new w2 38 #[.int .i64 (n : Int), .slice none 0 0]
  have L3 : Below w.heap.size w (w2.alloc (.cells #[.int .i64 (n : Int), .slice none 0 0] 38)) := L2.out.alloc L2.out.size _
  have z3 : (w2.alloc (.cells #[.int .i64 (n : Int), .slice none 0 0] 38)).heap.size = w2.heap.size + 1 := by simp
  obtain ⟨w3, hw3⟩ : ∃ W, w2.alloc (.cells #[.int .i64 (n : Int), .slice none 0 0] 38) = W := ⟨_, rfl⟩
  obtain ⟨gp, hgp⟩ : ∃ x, w2.heap.size = x := ⟨_, rfl⟩
  have hggp : g < gp := by have := KR2.out.lt; omega
  rw [hw3] at KR3 KP3 L3 z3 ⊢
  rw [hgp] at KP3 z3 ⊢
  have P3 : RS w g gp (gp + 1) l n (upto n i (foundK l key i) 0) w3 := by
    rw [upto_none]
    rw [HG.out] at L3
    exact ⟨L3, KR3, by omega, [], .slice none 0 0, KP3, PartsIn.nil _ _, trivial, rfl⟩
  have HP3 := Lib.hid P3
  clear hw3 hgp KR3 KP3 L3 z3 L2 KR2 P3
  go_wp2_with fail
  go_loopw [8] (fun s wr => ∃ k : Nat, k ≤ n ∧ s = .int .i64 k ∧ RS w g gp (gp + 1) l n (upto n i (foundK l key i) k) wr) (fun s _ => n - (intOf s).toNat)
  case atStart => exact ⟨0, by omega, rfl, HP3.out⟩
  case round =>
    obtain ⟨k, hk, rfl, hrs⟩ := hrel
    have RSH := Lib.hid hrs
    clear hrs HP3
    by_cases hlt : k < n
    · have hlt' : (k : Int) < (n : Int) := by omega
      have BW : Hid (Below w.heap.size w wr) := Lib.hid (by rw [HG.out]; exact RSH.out.b)
      obtain ⟨b, off, ke, va, rfl, hb, hck, hcv, hla⟩ := HA.out.ent (k := k) (by have := HN.out; omega)
      have a0 := (BW.out.cell (p := ⟨b, off + k * 2, none⟩) hb).trans hck
      have LA := Lib.hid hla
      have SEL := Lib.hid (sel_is HN.out (riseK_of HAS.out) LOW.out hla)
      clear hck hcv hla
      obtain ⟨nx, hnx⟩ : ∃ b, nxF l key k = b := ⟨_, rfl⟩
      obtain ⟨ah, hah⟩ : ∃ b, ahF l key k = b := ⟨_, rfl⟩
      have HNX := Lib.hid hnx
      have HAH := Lib.hid hah
      clear hnx hah
      obtain ⟨k1, hk1⟩ : ∃ k1, k + 1 = k1 := ⟨_, rfl⟩
      have hk1i : (k : Int) + 1 = (k1 : Int) := by omega
      have hk70 : (k : Int) < 70 := by omega
      go_upto_region 8 with fail
      go_cut [9] from 25 to 39 (fun s wx => s = .bool nx ∧ wx = wr)
      case first =>
        by_cases hkn : k1 = n
        · have e1 : ((k1 : Int) == (n : Int)) = true := by simp; omega
          have hnx : nx = true := by
            rw [← HNX.out, nxF, List.getElem?_eq_none (by have := HN.out; omega)]
          subst hnx
          go_wp2_with fail
          go_meet
          exact ⟨rfl, rfl⟩
        · have e1 : ((k1 : Int) == (n : Int)) = false := by simp; omega
          obtain ⟨b', off', ke1, va1, e0, hb', hck, hcv, hla1⟩ := HA.out.ent (k := k1) (by have := HN.out; omega)
          injection e0 with e0
          injection e0 with e01 e02
          subst e01
          subst e02
          have a1 := (BW.out.cell (p := ⟨b, off + k1 * 2, none⟩) hb).trans hck
          have s1 : (k1 : Int) < (n : Int) := by omega
          have g1 : Hid (ltK key ke1 = nx) := Lib.hid (by rw [← HNX.out, nxF, hk1, hla1])
          clear hck hcv hla1 hb'
          go_wp2_with fail
          go_meet
          exact ⟨congrArg Value.bool ((gt_form ke1 key).trans g1.out), rfl⟩
      case rest =>
        obtain ⟨rfl, rfl⟩ := hcut
        go_upto_region 9 with fail
        go_cut [10] from 40 to 51 (fun s wx => s = .bool ah ∧ wx = wc)
        case first =>
          by_cases hk0 : k = 0
          · have e1 : ((k : Int) == 0) = true := by simp; omega
            have hah : ah = true := by rw [← HAH.out, hk0]; rfl
            subst hah
            go_wp2_with fail
            go_meet
            exact ⟨rfl, rfl⟩
          · have e1 : ((k : Int) == 0) = false := by simp; omega
            obtain ⟨k0, hk0'⟩ : ∃ k0, k = k0 + 1 := ⟨k - 1, by omega⟩
            obtain ⟨b', off', ke1, va1, e0, hb', hck, hcv, hla1⟩ := HA.out.ent (k := k0) (by have := HN.out; omega)
            injection e0 with e0
            injection e0 with e01 e02
            subst e01
            subst e02
            have a1 := (BW.out.cell (p := ⟨b, off + k0 * 2, none⟩) hb).trans hck
            have s1 : (k0 : Int) < (n : Int) := by omega
            have s2 : (k : Int) - 1 = (k0 : Int) := by omega
            have g1 : Op.bytesLess ke1.toList key.toList = ah := by
              rw [← HAH.out, hk0']
              simp only [ahF, hla1]
              rfl
            clear hck hcv hla1 hb' hk0'
            go_wp2_with fail
            go_meet
            exact ⟨rfl, rfl⟩
        case rest =>
          obtain ⟨rfl, rfl⟩ := hcut
          obtain ⟨sel, hsel⟩ : ∃ x, selF l key k (ke, va) = x := ⟨_, rfl⟩
          have HSEL := Lib.hid hsel
          rw [hsel] at SEL
          clear hsel
          go_upto_region 10 with fail
          go_cut [82] from 52 to 82 (fun s wx => s = .bool sel ∧ wx = wc)
          case first =>
            cases hlt1 : ltK ke key with
            | true =>
              have g1 : Op.bytesLess ke.toList key.toList = true := hlt1
              have g2 : Op.bytesLess key.toList ke.toList = false := ltK_asymm hlt1
              have g3 : (ke.toList == key.toList) = false := by rw [eqK, decide_eq_false (ltK_ne hlt1)]
              have g3' : ¬ ke.toList = key.toList := by simpa using g3
              have hs : sel = nx := by
                rw [← HSEL.out, selF, decide_eq_false (ltK_ne hlt1), hlt1, show ltK key ke = false from g2, HNX.out]
                simp
              subst hs
              clear hlt1
              cases sel with
              | true =>
                go_wp2_with fail
                go_meet
                exact ⟨rfl, rfl⟩
              | false =>
                go_wp2_with fail
                go_meet
                exact ⟨rfl, rfl⟩
            | false =>
              cases hgt1 : ltK key ke with
              | true =>
                have g1 : Op.bytesLess ke.toList key.toList = false := hlt1
                have g2 : Op.bytesLess key.toList ke.toList = true := hgt1
                have g3 : (ke.toList == key.toList) = false := by rw [eqK, decide_eq_false (ltK_ne hgt1).symm]
                have g3' : ¬ ke.toList = key.toList := by simpa using g3
                have hs : sel = ah := by
                  rw [← HSEL.out, selF, decide_eq_false (ltK_ne hgt1).symm, hlt1, hgt1, HAH.out]
                  simp
                subst hs
                clear hlt1 hgt1
                cases sel with
                | true =>
                  go_wp2_with fail
                  go_meet
                  exact ⟨rfl, rfl⟩
                | false =>
                  go_wp2_with fail
                  go_meet
                  exact ⟨rfl, rfl⟩
              | false =>
                have he := ltK_total hlt1 hgt1
                have g3 : (ke.toList == key.toList) = true := by rw [eqK, decide_eq_true he]
                have g3' : ke.toList = key.toList := by rw [he]
                have hs : sel = true := by
                  rw [← HSEL.out, selF, decide_eq_true he]
                  rfl
                subst hs
                clear hlt1 hgt1 he
                go_wp2_with fail
                go_meet
                exact ⟨rfl, rfl⟩
          case rest =>
            obtain ⟨rfl, rfl⟩ := hcut
            clear a0 HNX HAH HSEL
            cases sel with
            | false =>
              rw [if_neg (by simp)] at SEL
              go_wp2_with fail
              go_roundw
              case rel => exact ⟨k1, by omega, rfl, by rw [← hk1, SEL.out]; exact RSH.out⟩
              case measure => simp [intOf]; omega
            | true =>
              rw [if_pos rfl] at SEL
              go_wp2_with fail
              obtain ⟨ps, v, a1, a2, a3, a4⟩ := RSH.out.st
              obtain ⟨path, hpath⟩ : ∃ p, wayE l k = p := ⟨_, rfl⟩
              have HPATH := Lib.hid hpath
              obtain ⟨i0, hii, hz0, hz1, hz2⟩ := info_parts part_info
              have hps : ps.length ≤ 2 := by
                rw [a4]
                exact Nat.le_trans (List.length_filter_le _ _) (idxs_len _ _ _)
              have PP := Lib.hid a1
              have ROW := Lib.hid a2.row
              have ST := Lib.hid (And.intro a2 (And.intro a3 a4))
              have HPART := Lib.hid (show ∀ W, Below wc.heap.size wc W → Calls Tryd.prog 40 #[.slice (some ⟨b, off, none⟩) n c, .int .i64 (k : Int)] W fun e w' => ∃ v, e = .returned v ∧ AggP (gp + 1) k (ke, va) path v w' ∧ Below W.heap.size W w' from fun W hbW => by
                have hb0 : Below w.heap.size w W := BW.out.trans (hbW.mono BW.out.size)
                refine (rpart_any l n k HN.out (ke, va) LA.out _ c W hlt hl hc HCM.out HF.out ((HA.out.below hb0).more hb0.size)).mono ?_
                rintro e w' ⟨v, rfl, ⟨A', c', rfl, hq⟩, hb⟩
                rw [hpath] at hq ⊢
                exact ⟨_, rfl, ⟨A', c', rfl, (show World.ownsRow _ _ _ _ _ _ _ from hq).mono (Nat.le_trans RSH.out.big hbW.size)⟩, hb⟩)
              have HW : Hid (∀ W, Below wc.drew.heap.size wc.drew W → W.cell? ⟨gp, 1, none⟩ = some v ∧ Below wc.heap.size wc W ∧ gp + 1 ≤ W.heap.size) := Lib.hid (fun W hW =>
                have hd : Below wc.heap.size wc wc.drew := (Below.refl _ _).drew
                have h1 : Below wc.heap.size wc W := hd.trans (hW.mono hd.size)
                ⟨(PP.out.below h1 PP.out.lt).cell 1, h1, Nat.le_trans RSH.out.big h1.size⟩)
              clear a1 a2 a3 a4 hpath
              refine wp_region_part [0, 1, 2, 3, 4, 5] [] [6, 7, 8] (lstV [fun x _ => x = .pointer (some ⟨gp, 1, none⟩), fun x _ => x = v, fun x _ => x = .slice (some ⟨b, off, none⟩) n c, fun x _ => x = .int .i64 (k : Int), AggP (gp + 1) k (ke, va) path, OneP (gp + 1) k (ke, va) path]) (by kernel_rfl) (by kernel_rfl) (lstV_on (by repeat' (first | exact forall_nil | refine forall_cons ?_ ?_ | exact stays_aggp _ _ _ _ | exact stays_onep _ _ _ _ | exact stays_eq _))) ?turns ?hq trivial ?fin
              case hq => intro c_ a_ d_ v_ w_ h_; cases d_ <;> exact h_
              case turns =>
                refine ⟨fun o ho a W pre => ?_, fun o ho a W pre => ?_, fun o ho a W pre => ?_, fun o ho a W pre => ?_, fun o ho a W pre => ?_, fun o ho a W pre => ?_, trivial⟩
                all_goals (obtain rfl := (Option.some.inj ho).symm; clear ho)
                · (refine .inl ?_; have q0 : a.eval (.tmp 7) = .pointer (some ⟨gp, 0, none⟩) := pre.was 7 (by kernel_rfl) rfl; rw [Act.eval, Array.getD_eq_getD_getElem?] at q0; exact does_val (want_none rfl) (by go_simp) rfl)
                · have c1 := (HW.out W pre.b).1
                  (refine .inl ?_; have q0 : a.eval (.tmp 83) = .pointer (some ⟨gp, 1, none⟩) := pre.val 0 83 (by kernel_rfl) (by kernel_rfl); rw [Act.eval, Array.getD_eq_getD_getElem?] at q0; exact does_val (want_none rfl) (by go_simp) rfl)
                · (refine .inl ?_; have q0 : a.eval (.tmp 0) = .slice (some ⟨b, off, none⟩) n c := pre.was 0 (by kernel_rfl) rfl; rw [Act.eval, Array.getD_eq_getD_getElem?] at q0; exact does_val (want_none rfl) (by go_simp) rfl)
                · (refine .inl ?_; have q0 : a.eval (.tmp 8) = .int .i64 (k : Int) := pre.was 8 (by kernel_rfl) rfl; rw [Act.eval, Array.getD_eq_getD_getElem?] at q0; exact does_val (want_none rfl) (by go_simp) rfl)
                · refine .inl ?_
                  have q0 : a.eval (.tmp 85) = .slice (some ⟨b, off, none⟩) n c := pre.val 2 85 (by kernel_rfl) (by kernel_rfl)
                  have q1 : a.eval (.tmp 86) = .int .i64 (k : Int) := pre.val 3 86 (by kernel_rfl) (by kernel_rfl)
                  rw [Act.eval, Array.getD_eq_getD_getElem?] at q0 q1
                  exact does_callx (want_none rfl) (by go_simp) (HPART.out W (HW.out W pre.b).2.1)
                · refine .inl ?_
                  obtain ⟨A', c', q0, q3⟩ : AggP (gp + 1) k (ke, va) path (a.eval (.tmp 87)) W := pre.val 4 87 (by kernel_rfl) (by kernel_rfl)
                  have hb_ : Below W.heap.size W (W.alloc (.cells #[.int .i64 (k : Int), .string ke, .string va, .slice A' path.length c'] 41)) := (by (first | assumption | (repeat (first | exact Below.refl _ _ | assumption | apply Below.drew | apply below_drewN | (refine Below.setCell ?_ (by (try simp) <;> omega) _) | (refine Below.alloc ?_ (by (try simp) <;> omega) _)))))
                  simp only at q0
                  rw [Act.eval, Array.getD_eq_getD_getElem?] at q0
                  exact does_new (want_none rfl) (by go_simp) hb_ ⟨W.heap.size, A', c', rfl, (HW.out W pre.b).2.2, Bk.new W _ _, own_below (show World.ownsRow _ _ _ _ _ _ _ from q3) hb_⟩
              case fin =>
                intro a W hbW hsz2 hd hv ho
                obtain ⟨-, hbw, hzw⟩ := HW.out W hbW
                have BWW := Lib.hid hbw
                have ZW := Lib.hid hzw
                have ROWW := Lib.hid (own_below ROW.out hbw)
                have PPW := Lib.hid (PP.out.below hbw PP.out.lt)
                obtain ⟨T, D⟩ := a
                obtain rfl : D = _ := hd
                have hs8 : T.size = 92 := by rw [hsz2]; rfl
                have q1 : T.getD 84 undef = v := hv 1 84 (by decide) (by kernel_rfl)
                obtain ⟨gq, A', c', q2, q2n, q2k, q2p⟩ : OneP (gp + 1) k (ke, va) path (T.getD 88 undef) W := hv 5 88 (by decide) (by kernel_rfl)
                have p0 : T.getD 0 undef = _ := ho 0 (no_dst (by kernel_rfl))
                have p1 : T.getD 1 undef = _ := ho 1 (no_dst (by kernel_rfl))
                have p2 : T.getD 2 undef = _ := ho 2 (no_dst (by kernel_rfl))
                have p3 : T.getD 3 undef = _ := ho 3 (no_dst (by kernel_rfl))
                have p4 : T.getD 4 undef = _ := ho 4 (no_dst (by kernel_rfl))
                have p5 : T.getD 5 undef = _ := ho 5 (no_dst (by kernel_rfl))
                have p6 : T.getD 6 undef = _ := ho 6 (no_dst (by kernel_rfl))
                have p7 : T.getD 7 undef = _ := ho 7 (no_dst (by kernel_rfl))
                have p8 : T.getD 8 undef = _ := ho 8 (no_dst (by kernel_rfl))
                have p11 : T.getD 11 undef = _ := ho 11 (no_dst (by kernel_rfl))
                have p12 : T.getD 12 undef = _ := ho 12 (no_dst (by kernel_rfl))
                have p13 : T.getD 13 undef = _ := ho 13 (no_dst (by kernel_rfl))
                have p14 : T.getD 14 undef = _ := ho 14 (no_dst (by kernel_rfl))
                have p15 : T.getD 15 undef = _ := ho 15 (no_dst (by kernel_rfl))
                have p16 : T.getD 16 undef = _ := ho 16 (no_dst (by kernel_rfl))
                have p17 : T.getD 17 undef = _ := ho 17 (no_dst (by kernel_rfl))
                have p18 : T.getD 18 undef = _ := ho 18 (no_dst (by kernel_rfl))
                have p91 : T.getD 91 undef = _ := ho 91 (no_dst (by kernel_rfl))
                have SL : Hid (Sl W W.heap.size 4 (some ⟨gq, 0, none⟩) 1 [.int .i64 (k : Int), .string ke, .string va, .slice A' path.length c']) := Lib.hid ⟨by simp, fun _ => ⟨gq, 0, rfl, q2k.lt, fun j u hu => by rw [Nat.zero_add, q2k.cell]; simpa using hu⟩⟩
                have QP := Lib.hid q2p
                obtain ⟨f, hf⟩ : ∃ f : Nat → Value, ∀ i, T.getD i undef = f i := ⟨_, fun _ => rfl⟩
                have hT := lit_of hs8 f hf
                rw [hf] at q1 q2 p0 p1 p2 p3 p4 p5 p6 p7 p8 p11 p12 p13 p14 p15 p16 p17 p18 p91
                simp only [List.range, List.range.loop, List.map_cons, List.map_nil, q1, q2, p0, p1, p2, p3, p4, p5, p6, p7, p8, p11, p12, p13, p14, p15, p16, p17, p18, p91] at hT
                clear hf q1 q2 p0 p1 p2 p3 p4 p5 p6 p7 p8 p11 p12 p13 p14 p15 p16 p17 p18 p91 hs8 hsz2 hv ho hbW hbw hzw q2k q2n q2p HW HPART
                subst hT
                simp only [List.filterMap_cons, List.filterMap_nil, List.getElem?_toArray, List.getElem?_cons_succ, List.getElem?_cons_zero]
                show wpList _ _ _ (_ :: _ :: _ :: []) _ _
                refine wpList_append_sl _ (by rfl) _ _ 36 (by rfl) (gp + 1) 41 i0 _ 4 64 Tryd.underlying36 hii hz0 hz1 hz2 rfl (by omega) v ps.length (pCells ps) (by rfl) ROWW.out (some ⟨gq, 0, none⟩) 1 1 [.int .i64 (k : Int), .string ke, .string va, .slice A' path.length c'] (by rfl) SL.out (by simp [Value.oneCell']) (by unfold maxLen; omega) (by omega) ZW.out ?_
                intro v5 w5_ ho_ hg_ hv_
                obtain ⟨g5, cap5, rfl⟩ := ownsRow_succ ho_
                have M5 := Lib.hid (Moves.own_grown ROWW.out hg_)
                have pk := PPW.out.grown hg_ (own_ne ROWW.out PPW.out (by decide))
                have PK := Lib.hid pk
                have O5 := Lib.hid ho_
                have f1 := pk.frozen 1
                have c1 := pk.cell 1
                clear ho_ hg_ hv_ SL pk
                go_wp2_with fail
                have hm2 : Moves (AX gp (gp + 1)) W (w5_.setCell ⟨gp, 1, none⟩ (.slice (some ⟨g5, 0, none⟩) (ps.length + 1) cap5)) := (M5.out.more (fun k o h => .inr h)).comp (Moves.setCell _ _ _ (fun o _ => .inl rfl))
                have hm : Moves (AX gp (gp + 1)) wc (w5_.setCell ⟨gp, 1, none⟩ (.slice (some ⟨g5, 0, none⟩) (ps.length + 1) cap5)) := (Moves.below _ BWW.out (Nat.le_refl _)).comp hm2
                have hfin := RSH.out.add HG.out hggp (by omega) LA.out ST.out.1 ST.out.2.1 ST.out.2.2 (A' := A') (c' := c') (PK.out.set_ 1 _) (by
                  rw [HPATH.out, pCells_snoc]
                  exact own_far O5.out (p := ⟨gp, 1, none⟩) (own_ne O5.out PK.out (by decide)) _) (by
                  have := QP.out.moves hm2 (by omega)
                  rw [HPATH.out]
                  exact this) hm
                rw [← SEL.out, hk1] at hfin
                go_roundw
                case rel => exact ⟨k1, by omega, rfl, hfin⟩
                case measure => simp [intOf]; omega
    · obtain rfl : k = n := by omega
      have hrs := RSH.out
      rw [upto_all (by have := LOW.out.le; have := HN.out; omega)] at hrs
      obtain ⟨ps, P, c', q1, q2, q3⟩ := hrs.done HG.out (by omega)
      have c0 := q1.cell 0
      have c1 := q1.cell 1
      have d0 := hrs.kr.cell 0
      have d1 := hrs.kr.cell 1
      have f0 := hrs.kr.frozen 0
      have f1 := hrs.kr.frozen 1
      have K9 := Lib.hid ((hrs.kr.set_ 0 (.int .i64 (k : Int))).set_ 1 (.slice P ps.length c'))
      have Q2 := Lib.hid q2
      have Q3 := Lib.hid (q3 (.int .i64 (k : Int)) (.slice P ps.length c'))
      clear q1 q2 q3 hrs
      go_wp2_with fail
      refine bodyPost_ret (results_cell2 rfl _ _ g 38 #[.int .i64 (k : Int), .slice P ps.length c'] (0, 0) _ (.int .i64 0) (by rfl) (by rfl) K9.out Tryd.underlying38 rfl (by rw [hi_proof]; rfl)) rfl ?_
      exact ⟨ps, P, c', Q2.out, rfl, by rw [HG.out]; exact Q3.out.1, by rw [HG.out]; exact Q3.out.2⟩
end Go.Proofs.YtdeikpifflkabaaDoor

namespace Go.Proofs.YtdeikpifflkabaaDoor
open Go.RowKit Go.Shelf
set_option linter.unusedVariables false
set_option linter.unusedSimpArgs false

theorem run_nh {o : Oper} {a : Act} {w : World} (x y : Operand) (ty : TypeId) (ho : o.op = .binOp .neq 26 x y ty) (p : List UInt8) (hx : a.eval x = .agg (bts p).toArray) (hy : a.eval y = .agg (bts p).toArray) (hp : p.length = 32) :
    (execOp a.eval o).run Tryd.prog w = .ok (.value (.bool false)) w := by
  have h := run_bytes_neq (P := Tryd.prog) (w := w) 26 5 ty x y ho 32 Tryd.underlying26 Tryd.underlying5 hs_u8' hm_hash p p hx hy hp hp
  rwa [show (!(p == p)) = false by simp] at h
/-- Two parts read alike. -/
def AlikeP (p q : PartV) : Prop := p.idx = q.idx ∧ p.e = q.e ∧ p.path = q.path
theorem PartsOf.alike {l : List Ent} : ∀ {ps qs : List PartV} {js : List Nat} {k : Nat} {p q : PartV}, PartsOf l ps js → PartsOf l qs js → ps[k]? = some p → qs[k]? = some q → AlikeP p q
  | [], _, _, k, p, q, _, _, h, _ => by simp at h
  | _ :: _, [], [], k, p, q, h, _, _, _ => h.elim
  | _ :: _, [], _ :: _, k, p, q, _, h, _, _ => h.elim
  | a :: ps, b :: qs, [], k, p, q, h, _, _, _ => h.elim
  | a :: ps, b :: qs, j :: js, 0, p, q, h, h', hp, hq => by
    obtain rfl : a = p := by simpa using hp
    obtain rfl : b = q := by simpa using hq
    exact ⟨by rw [h.1.idx, h'.1.idx], Option.some.inj (h.1.e.symm.trans h'.1.e), by rw [h.1.path, h'.1.path]⟩
  | a :: ps, b :: qs, j :: js, k + 1, p, q, h, h', hp, hq => PartsOf.alike (k := k) h.2 h'.2 (by simpa using hp) (by simpa using hq)

attribute [local irreducible] digF
set_option maxRecDepth 100000 in
set_option maxHeartbeats 8000000 in
theorem same_any (s : Int) (ps qs : List PartV) (m : Nat) (hm : ps.length = m) (hm' : qs.length = m) (hm2 : m ≤ 1000) (A B : Option Addr) (c c' : Nat) (w : World) (hal : ∀ (k : Nat) p q, ps[k]? = some p → qs[k]? = some q → AlikeP p q) (hg : ∀ p ∈ ps, p.good w) (hg' : ∀ q ∈ qs, q.good w)
    (hA : Sl w w.heap.size 4 A ps.length (pCells ps)) (hB : Sl w w.heap.size 4 B qs.length (pCells qs)) :
    Calls Tryd.prog 20 #[.agg #[.int .i64 s, .slice A m c], .agg #[.int .i64 s, .slice B m c']] w fun e w' => e = .returned (.bool true) ∧ Below w.heap.size w w' := by
  have HA := Lib.hid hA
  have HB := Lib.hid hB
  have HAL := Lib.hid hal
  have HG := Lib.hid hg
  have HG' := Lib.hid hg'
  have HM := Lib.hid hm
  have HM' := Lib.hid hm'
  clear hA hB hal hg hg' hm hm'
  go_enter Tryd.func20, Tryd.ntmps20
  go_upto_region 1 with fail
  have K1 := (Bk.new w 38 #[.int .i64 s, .slice A m c]).alloc (.cells #[.int .i64 s, .slice B m c'] 38)
  have K2 := Bk.new (w.alloc (.cells #[.int .i64 s, .slice A m c] 38)) 38 #[.int .i64 s, .slice B m c']
  have L2 : Below w.heap.size w ((w.alloc (.cells #[.int .i64 s, .slice A m c] 38)).alloc (.cells #[.int .i64 s, .slice B m c'] 38)) := (by (first | assumption | (repeat (first | exact Below.refl _ _ | assumption | apply Below.drew | apply below_drewN | (refine Below.setCell ?_ (by (try simp) <;> omega) _) | (refine Below.alloc ?_ (by (try simp) <;> omega) _)))))
  rw [World.size_alloc] at K2
  obtain ⟨w2, hw2⟩ : ∃ W, (w.alloc (.cells #[.int .i64 s, .slice A m c] 38)).alloc (.cells #[.int .i64 s, .slice B m c'] 38) = W := ⟨_, rfl⟩
  obtain ⟨g, hg⟩ : ∃ g, w.heap.size = g := ⟨_, rfl⟩
  rw [hw2] at K1 K2 L2 ⊢
  rw [hg] at K1 K2 ⊢
  have x0 := K1.cell 0
  have x1 := K1.cell 1
  have y0 := K2.cell 0
  have y1 := K2.cell 1
  have K1 := Lib.hid K1
  have K2 := Lib.hid K2
  have L2 := Lib.hid L2
  clear hw2 hg
  go_wp2_with fail
  clear x0 x1 y0 y1
  go_loopw [5] (fun s wr => ∃ k : Nat, k ≤ m ∧ s = .int .i64 k ∧ Below w2.heap.size w2 wr) (fun s _ => m - (intOf s).toNat)
  case atStart => exact ⟨0, by omega, rfl, Below.refl _ _⟩
  case round =>
    obtain ⟨k, hk, rfl, hbel⟩ := hrel
    have HB2 := Lib.hid hbel
    have BR := Lib.hid (L2.out.trans (hbel.mono L2.out.size))
    have x1 := (K1.out.below hbel K1.out.lt).cell 1
    have y1 := (K2.out.below hbel K2.out.lt).cell 1
    clear hbel
    by_cases hlt : k < m
    · have hlt' : (k : Int) < (m : Int) := by omega
      obtain ⟨b, off, p, rfl, hb, hpk, hc0, hc1, hc2, hc3⟩ := HA.out.pt (k := k) (by have := HM.out; omega)
      obtain ⟨b', off', q, rfl, hb', hqk, hd0, hd1, hd2, hd3⟩ := HB.out.pt (k := k) (by have := HM'.out; omega)
      obtain ⟨h1, h2, h3⟩ := HAL.out k p q hpk hqk
      have hgp := HG.out p (List.mem_of_getElem? hpk)
      have hgq := HG'.out q (List.mem_of_getElem? hqk)
      have a0 := (BR.out.cell (p := ⟨b, off + k * 4, none⟩) hb).trans hc0
      have a1 := (BR.out.cell (p := ⟨b, off + k * 4 + 1, none⟩) hb).trans hc1
      have a2 := (BR.out.cell (p := ⟨b, off + k * 4 + 2, none⟩) hb).trans hc2
      have a3 := (BR.out.cell (p := ⟨b, off + k * 4 + 3, none⟩) hb).trans hc3
      obtain ⟨⟨idx, ⟨pk, pv⟩, pA, path, pc⟩, hpe⟩ : ∃ x, x = p := ⟨p, rfl⟩
      obtain ⟨⟨idx2, ⟨qk, qv⟩, qA, path2, qc⟩, hqe⟩ : ∃ x, x = q := ⟨q, rfl⟩
      subst hpe
      subst hqe
      simp only at h1 h2 h3 a0 a1 a2 a3 hd0 hd1 hd2 hd3
      subst h1
      injection h2 with h21 h22
      subst h21
      subst h22
      subst h3
      have GP := Lib.hid hgp
      have GQ := Lib.hid hgq
      have E0 := ent_neq pk pv pk pv
      rw [decide_eq_true (p := (pk, pv) = (pk, pv)) rfl, Bool.not_true] at E0
      have hpl : path.length ≤ 9223372036854775807 := by have h1 := hgp.le; have h2 := hgp.cm; unfold maxLen at h2; simp only at h1 h2; omega
      clear hc0 hc1 hc2 hc3 hpk hqk hgp hgq
      go_upto_region 7 with fail
      have N1 := Bk.new wr 41 #[.int .i64 idx, .string pk, .string pv, .slice pA path.length pc]
      have hb3 : Below wr.heap.size wr (wr.alloc (.cells #[.int .i64 idx, .string pk, .string pv, .slice pA path.length pc] 41)) := (by (first | assumption | (repeat (first | exact Below.refl _ _ | assumption | apply Below.drew | apply below_drewN | (refine Below.setCell ?_ (by (try simp) <;> omega) _) | (refine Below.alloc ?_ (by (try simp) <;> omega) _)))))
      obtain ⟨w3, hw3⟩ : ∃ W, wr.alloc (.cells #[.int .i64 idx, .string pk, .string pv, .slice pA path.length pc] 41) = W := ⟨_, rfl⟩
      obtain ⟨gr, hgr⟩ : ∃ g, wr.heap.size = g := ⟨_, rfl⟩
      rw [hw3] at N1 hb3 ⊢
      have B3 := Lib.hid (BR.out.trans (hb3.mono BR.out.size))
      have HB3 := Lib.hid (HB2.out.trans (hb3.mono HB2.out.size))
      rw [hgr] at N1 ⊢
      have d0 := (B3.out.cell (p := ⟨b', off' + k * 4, none⟩) hb').trans hd0
      have d1 := (B3.out.cell (p := ⟨b', off' + k * 4 + 1, none⟩) hb').trans hd1
      have d2 := (B3.out.cell (p := ⟨b', off' + k * 4 + 2, none⟩) hb').trans hd2
      have d3 := (B3.out.cell (p := ⟨b', off' + k * 4 + 3, none⟩) hb').trans hd3
      have y1 := (K2.out.below HB3.out K2.out.lt).cell 1
      have N1 := Lib.hid N1
      clear hw3 hgr hb3 a0 a1 a2 a3 x1 BR HB2 hd0 hd1 hd2 hd3
      go_upto_region 8 with fail
      have N2 := Bk.new w3 41 #[.int .i64 idx, .string pk, .string pv, .slice qA path.length qc]
      have hb4 : Below w3.heap.size w3 (w3.alloc (.cells #[.int .i64 idx, .string pk, .string pv, .slice qA path.length qc] 41)) := (by (first | assumption | (repeat (first | exact Below.refl _ _ | assumption | apply Below.drew | apply below_drewN | (refine Below.setCell ?_ (by (try simp) <;> omega) _) | (refine Below.alloc ?_ (by (try simp) <;> omega) _)))))
      obtain ⟨w4, hw4⟩ : ∃ W, w3.alloc (.cells #[.int .i64 idx, .string pk, .string pv, .slice qA path.length qc] 41) = W := ⟨_, rfl⟩
      obtain ⟨gs, hgs⟩ : ∃ g, w3.heap.size = g := ⟨_, rfl⟩
      rw [hw4] at N2 hb4 ⊢
      have B4 := Lib.hid (B3.out.trans (hb4.mono B3.out.size))
      have HB4 := Lib.hid (HB3.out.trans (hb4.mono HB3.out.size))
      have N1 := Lib.hid (N1.out.below hb4 N1.out.lt)
      rw [hgs] at N2 ⊢
      have n0 := N1.out.cell 0
      have n1 := N1.out.cell 1
      have n2 := N1.out.cell 2
      have n3 := N1.out.cell 3
      have m0 := N2.cell 0
      have m1 := N2.cell 1
      have m2 := N2.cell 2
      have m3 := N2.cell 3
      have N2 := Lib.hid N2
      clear hw4 hgs hb4 d0 d1 d2 d3 y1 B3 HB3
      go_wp2_with fail
      clear n0 n1 n2 n3 m0 m1 m2 m3 E0
      go_loopw [8] (fun s ws => ∃ j : Nat, j ≤ path.length ∧ s = .int .i64 j ∧ Below w4.heap.size w4 ws) (fun s _ => path.length - (intOf s).toNat)
      case atStart => exact ⟨0, by omega, rfl, Below.refl _ _⟩
      case round =>
        obtain ⟨j, hj, rfl, hbel⟩ := hrel
        have HBL := Lib.hid hbel
        have BJ := Lib.hid (B4.out.trans (hbel.mono B4.out.size))
        have M1 := Lib.hid (N1.out.below hbel N1.out.lt)
        have M2 := Lib.hid (N2.out.below hbel N2.out.lt)
        have n3 := M1.out.cell 3
        have m3 := M2.out.cell 3
        clear hbel
        by_cases hjl : j < path.length
        · have hjl' : (j : Int) < (path.length : Int) := by omega
          obtain ⟨b1, o1, x, e1, hb1, hx1, hr1⟩ := GP.out.sl.hsh GP.out.h (k := j) hjl
          obtain ⟨b2, o2, x2, e2, hb2, hx2, hr2⟩ := GQ.out.sl.hsh GQ.out.h (k := j) hjl
          simp only at e1 e2 hx1 hx2
          rw [hx1] at hx2
          injection hx2 with hx2
          subst hx2
          subst e1
          subst e2
          have hxl : x.length = 32 := GP.out.h.at_ hx1
          have R1 := Lib.hid (rangeAt_below hr1 BJ.out hb1)
          have R2 := Lib.hid (rangeAt_below hr2 BJ.out hb2)
          have r1l : b1 < wr.heap.size := Nat.lt_of_lt_of_le hb1 BJ.out.size
          have r2l : b2 < wr.heap.size := Nat.lt_of_lt_of_le hb2 BJ.out.size
          clear hr1 hr2 hx1
          go_wp2_with fail
          have HW : Hid (∀ W, Below wr.drew.heap.size wr.drew W → W.cell? ⟨gr, 3, none⟩ = some (.slice (some ⟨b1, o1, none⟩) path.length pc) ∧ W.cell? ⟨gs, 3, none⟩ = some (.slice (some ⟨b2, o2, none⟩) path.length qc) ∧ W.rangeAt b1 (o1 + j * 32) (bts x) ∧ W.rangeAt b2 (o2 + j * 32) (bts x) ∧ Below wr.heap.size wr W) := Lib.hid (fun W hW =>
            have hd : Below wr.heap.size wr wr.drew := (Below.refl _ _).drew
            have h1 : Below wr.heap.size wr W := hd.trans (hW.mono hd.size)
            ⟨(M1.out.below h1 M1.out.lt).cell 3, (M2.out.below h1 M2.out.lt).cell 3, rangeAt_below R1.out h1 r1l, rangeAt_below R2.out h1 r2l, h1⟩)
          clear n3 m3
          refine wp_region_part [0, 1, 2, 3, 4, 5, 6, 7, 8, 9, 10] [] [] (lstV [fun v _ => v = .pointer (some ⟨gr, 3, none⟩), fun v _ => v = .slice (some ⟨b1, o1, none⟩) path.length pc, fun v _ => v = .int .i64 (j : Int), fun v _ => v = .pointer (some ⟨b1, o1 + j * 32, none⟩), fun v _ => v = .agg (bts x).toArray, fun v _ => v = .pointer (some ⟨gs, 3, none⟩), fun v _ => v = .slice (some ⟨b2, o2, none⟩) path.length qc, fun v _ => v = .int .i64 (j : Int), fun v _ => v = .pointer (some ⟨b2, o2 + j * 32, none⟩), fun v _ => v = .agg (bts x).toArray, fun v _ => v = .bool false]) (by kernel_rfl) (by kernel_rfl) (lstV_on (by repeat' (first | exact forall_nil | refine forall_cons ?_ ?_ | exact stays_two _ _ _ | exact stays_eq _ | exact stays_part _ | exact stays_parts _))) ?turns ?hq trivial ?fin
          case hq => intro c_ a_ d_ v_ w_ h_; cases d_ <;> exact h_
          case turns =>
            refine ⟨fun o ho a W pre => ?_, fun o ho a W pre => ?_, fun o ho a W pre => ?_, fun o ho a W pre => ?_, fun o ho a W pre => ?_, fun o ho a W pre => ?_, fun o ho a W pre => ?_, fun o ho a W pre => ?_, fun o ho a W pre => ?_, fun o ho a W pre => ?_, fun o ho a W pre => ?_, trivial⟩
            all_goals (obtain rfl := (Option.some.inj ho).symm; clear ho)
            · (refine .inl ?_; have q0 : a.eval (.tmp 6) = .pointer (some ⟨gr, 0, none⟩) := pre.was 6 (by kernel_rfl) rfl; rw [Act.eval, Array.getD_eq_getD_getElem?] at q0; exact does_val (want_none rfl) (by go_simp) rfl)
            · have c1 := (HW.out W pre.b).1
              (refine .inl ?_; have q0 : a.eval (.tmp 68) = .pointer (some ⟨gr, 3, none⟩) := pre.val 0 68 (by kernel_rfl) (by kernel_rfl); rw [Act.eval, Array.getD_eq_getD_getElem?] at q0; exact does_val (want_none rfl) (by go_simp) rfl)
            · (refine .inl ?_; have q0 : a.eval (.tmp 8) = .int .i64 (j : Int) := pre.was 8 (by kernel_rfl) rfl; rw [Act.eval, Array.getD_eq_getD_getElem?] at q0; exact does_val (want_none rfl) (by go_simp) rfl)
            · (refine .inl ?_; have q0 : a.eval (.tmp 69) = .slice (some ⟨b1, o1, none⟩) path.length pc := pre.val 1 69 (by kernel_rfl) (by kernel_rfl); have q1 : a.eval (.tmp 70) = .int .i64 (j : Int) := pre.val 2 70 (by kernel_rfl) (by kernel_rfl); rw [Act.eval, Array.getD_eq_getD_getElem?] at q0 q1; exact does_val (want_none rfl) (by go_simp) rfl)
            · refine .inl ?_
              have q0 : a.eval (.tmp 71) = .pointer (some ⟨b1, o1 + j * 32, none⟩) := pre.val 3 71 (by kernel_rfl) (by kernel_rfl)
              exact does_val (want_none rfl) (run_ldh _ rfl b1 (o1 + j * 32) q0 x hxl (HW.out W pre.b).2.2.1) rfl
            · (refine .inl ?_; have q0 : a.eval (.tmp 7) = .pointer (some ⟨gs, 0, none⟩) := pre.was 7 (by kernel_rfl) rfl; rw [Act.eval, Array.getD_eq_getD_getElem?] at q0; exact does_val (want_none rfl) (by go_simp) rfl)
            · have c1 := (HW.out W pre.b).2.1
              (refine .inl ?_; have q0 : a.eval (.tmp 73) = .pointer (some ⟨gs, 3, none⟩) := pre.val 5 73 (by kernel_rfl) (by kernel_rfl); rw [Act.eval, Array.getD_eq_getD_getElem?] at q0; exact does_val (want_none rfl) (by go_simp) rfl)
            · (refine .inl ?_; have q0 : a.eval (.tmp 8) = .int .i64 (j : Int) := pre.was 8 (by kernel_rfl) rfl; rw [Act.eval, Array.getD_eq_getD_getElem?] at q0; exact does_val (want_none rfl) (by go_simp) rfl)
            · (refine .inl ?_; have q0 : a.eval (.tmp 74) = .slice (some ⟨b2, o2, none⟩) path.length qc := pre.val 6 74 (by kernel_rfl) (by kernel_rfl); have q1 : a.eval (.tmp 75) = .int .i64 (j : Int) := pre.val 7 75 (by kernel_rfl) (by kernel_rfl); rw [Act.eval, Array.getD_eq_getD_getElem?] at q0 q1; exact does_val (want_none rfl) (by go_simp) rfl)
            · refine .inl ?_
              have q0 : a.eval (.tmp 76) = .pointer (some ⟨b2, o2 + j * 32, none⟩) := pre.val 8 76 (by kernel_rfl) (by kernel_rfl)
              exact does_val (want_none rfl) (run_ldh _ rfl b2 (o2 + j * 32) q0 x hxl (HW.out W pre.b).2.2.2.1) rfl
            · refine .inl ?_
              have q0 : a.eval (.tmp 72) = .agg (bts x).toArray := pre.val 4 72 (by kernel_rfl) (by kernel_rfl)
              have q1 : a.eval (.tmp 77) = .agg (bts x).toArray := pre.val 9 77 (by kernel_rfl) (by kernel_rfl)
              exact does_val (want_none rfl) (run_nh _ _ _ rfl x q0 q1 hxl) rfl
          case fin =>
            intro a W hbW hsz2 hd hv ho
            obtain ⟨-, -, -, -, hbw⟩ := HW.out W hbW
            have BWW := Lib.hid (HBL.out.trans (hbw.mono HBL.out.size))
            obtain ⟨T, D⟩ := a
            obtain rfl : D = _ := hd
            have hs8 : T.size = 79 := by rw [hsz2]; rfl
            have q1 : T.getD 78 undef = .bool false := hv 10 78 (by decide) (by kernel_rfl)
            have p0 : T.getD 0 undef = _ := ho 0 (no_dst (by kernel_rfl))
            have p1 : T.getD 1 undef = _ := ho 1 (no_dst (by kernel_rfl))
            have p2 : T.getD 2 undef = _ := ho 2 (no_dst (by kernel_rfl))
            have p3 : T.getD 3 undef = _ := ho 3 (no_dst (by kernel_rfl))
            have p4 : T.getD 4 undef = _ := ho 4 (no_dst (by kernel_rfl))
            have p5 : T.getD 5 undef = _ := ho 5 (no_dst (by kernel_rfl))
            have p6 : T.getD 6 undef = _ := ho 6 (no_dst (by kernel_rfl))
            have p7 : T.getD 7 undef = _ := ho 7 (no_dst (by kernel_rfl))
            have p8 : T.getD 8 undef = _ := ho 8 (no_dst (by kernel_rfl))
            have p9 : T.getD 9 undef = _ := ho 9 (no_dst (by kernel_rfl))
            have p10 : T.getD 10 undef = _ := ho 10 (no_dst (by kernel_rfl))
            have p11 : T.getD 11 undef = _ := ho 11 (no_dst (by kernel_rfl))
            have p12 : T.getD 12 undef = _ := ho 12 (no_dst (by kernel_rfl))
            have p13 : T.getD 13 undef = _ := ho 13 (no_dst (by kernel_rfl))
            have p14 : T.getD 14 undef = _ := ho 14 (no_dst (by kernel_rfl))
            have p15 : T.getD 15 undef = _ := ho 15 (no_dst (by kernel_rfl))
            have p16 : T.getD 16 undef = _ := ho 16 (no_dst (by kernel_rfl))
            have p17 : T.getD 17 undef = _ := ho 17 (no_dst (by kernel_rfl))
            have p18 : T.getD 18 undef = _ := ho 18 (no_dst (by kernel_rfl))
            have p19 : T.getD 19 undef = _ := ho 19 (no_dst (by kernel_rfl))
            have p20 : T.getD 20 undef = _ := ho 20 (no_dst (by kernel_rfl))
            have p21 : T.getD 21 undef = _ := ho 21 (no_dst (by kernel_rfl))
            have p22 : T.getD 22 undef = _ := ho 22 (no_dst (by kernel_rfl))
            have p23 : T.getD 23 undef = _ := ho 23 (no_dst (by kernel_rfl))
            have p24 : T.getD 24 undef = _ := ho 24 (no_dst (by kernel_rfl))
            have p25 : T.getD 25 undef = _ := ho 25 (no_dst (by kernel_rfl))
            have p26 : T.getD 26 undef = _ := ho 26 (no_dst (by kernel_rfl))
            have p27 : T.getD 27 undef = _ := ho 27 (no_dst (by kernel_rfl))
            have p28 : T.getD 28 undef = _ := ho 28 (no_dst (by kernel_rfl))
            have p29 : T.getD 29 undef = _ := ho 29 (no_dst (by kernel_rfl))
            have p30 : T.getD 30 undef = _ := ho 30 (no_dst (by kernel_rfl))
            have p31 : T.getD 31 undef = _ := ho 31 (no_dst (by kernel_rfl))
            have p32 : T.getD 32 undef = _ := ho 32 (no_dst (by kernel_rfl))
            have p33 : T.getD 33 undef = _ := ho 33 (no_dst (by kernel_rfl))
            have p34 : T.getD 34 undef = _ := ho 34 (no_dst (by kernel_rfl))
            have p35 : T.getD 35 undef = _ := ho 35 (no_dst (by kernel_rfl))
            have p36 : T.getD 36 undef = _ := ho 36 (no_dst (by kernel_rfl))
            have p37 : T.getD 37 undef = _ := ho 37 (no_dst (by kernel_rfl))
            have p38 : T.getD 38 undef = _ := ho 38 (no_dst (by kernel_rfl))
            have p39 : T.getD 39 undef = _ := ho 39 (no_dst (by kernel_rfl))
            have p40 : T.getD 40 undef = _ := ho 40 (no_dst (by kernel_rfl))
            have p41 : T.getD 41 undef = _ := ho 41 (no_dst (by kernel_rfl))
            have p42 : T.getD 42 undef = _ := ho 42 (no_dst (by kernel_rfl))
            have p43 : T.getD 43 undef = _ := ho 43 (no_dst (by kernel_rfl))
            have p44 : T.getD 44 undef = _ := ho 44 (no_dst (by kernel_rfl))
            have p45 : T.getD 45 undef = _ := ho 45 (no_dst (by kernel_rfl))
            have p46 : T.getD 46 undef = _ := ho 46 (no_dst (by kernel_rfl))
            have p47 : T.getD 47 undef = _ := ho 47 (no_dst (by kernel_rfl))
            have p48 : T.getD 48 undef = _ := ho 48 (no_dst (by kernel_rfl))
            have p49 : T.getD 49 undef = _ := ho 49 (no_dst (by kernel_rfl))
            have p50 : T.getD 50 undef = _ := ho 50 (no_dst (by kernel_rfl))
            have p51 : T.getD 51 undef = _ := ho 51 (no_dst (by kernel_rfl))
            have p52 : T.getD 52 undef = _ := ho 52 (no_dst (by kernel_rfl))
            have p53 : T.getD 53 undef = _ := ho 53 (no_dst (by kernel_rfl))
            have p54 : T.getD 54 undef = _ := ho 54 (no_dst (by kernel_rfl))
            have p55 : T.getD 55 undef = _ := ho 55 (no_dst (by kernel_rfl))
            have p56 : T.getD 56 undef = _ := ho 56 (no_dst (by kernel_rfl))
            have p57 : T.getD 57 undef = _ := ho 57 (no_dst (by kernel_rfl))
            have p58 : T.getD 58 undef = _ := ho 58 (no_dst (by kernel_rfl))
            have p59 : T.getD 59 undef = _ := ho 59 (no_dst (by kernel_rfl))
            have p60 : T.getD 60 undef = _ := ho 60 (no_dst (by kernel_rfl))
            have p61 : T.getD 61 undef = _ := ho 61 (no_dst (by kernel_rfl))
            have p62 : T.getD 62 undef = _ := ho 62 (no_dst (by kernel_rfl))
            have p63 : T.getD 63 undef = _ := ho 63 (no_dst (by kernel_rfl))
            have p64 : T.getD 64 undef = _ := ho 64 (no_dst (by kernel_rfl))
            have p65 : T.getD 65 undef = _ := ho 65 (no_dst (by kernel_rfl))
            have p66 : T.getD 66 undef = _ := ho 66 (no_dst (by kernel_rfl))
            have p67 : T.getD 67 undef = _ := ho 67 (no_dst (by kernel_rfl))
            obtain ⟨f, hf⟩ : ∃ f : Nat → Value, ∀ i, T.getD i undef = f i := ⟨_, fun _ => rfl⟩
            have hT := lit_of hs8 f hf
            rw [hf] at q1 p0 p1 p2 p3 p4 p5 p6 p7 p8 p9 p10 p11 p12 p13 p14 p15 p16 p17 p18 p19 p20 p21 p22 p23 p24 p25 p26 p27 p28 p29 p30 p31 p32 p33 p34 p35 p36 p37 p38 p39 p40 p41 p42 p43 p44 p45 p46 p47 p48 p49 p50 p51 p52 p53 p54 p55 p56 p57 p58 p59 p60 p61 p62 p63 p64 p65 p66 p67
            simp only [Array.getD_eq_getD_getElem?, List.getElem?_toArray, List.getElem?_cons_succ, List.getElem?_cons_zero, Option.getD_some] at p0 p1 p2 p3 p4 p5 p6 p7 p8 p9 p10 p11 p12 p13 p14 p15 p16 p17 p18 p19 p20 p21 p22 p23 p24 p25 p26 p27 p28 p29 p30 p31 p32 p33 p34 p35 p36 p37 p38 p39 p40 p41 p42 p43 p44 p45 p46 p47 p48 p49 p50 p51 p52 p53 p54 p55 p56 p57 p58 p59 p60 p61 p62 p63 p64 p65 p66 p67
            simp only [List.range, List.range.loop, List.map_cons, List.map_nil, q1, p0, p1, p2, p3, p4, p5, p6, p7, p8, p9, p10, p11, p12, p13, p14, p15, p16, p17, p18, p19, p20, p21, p22, p23, p24, p25, p26, p27, p28, p29, p30, p31, p32, p33, p34, p35, p36, p37, p38, p39, p40, p41, p42, p43, p44, p45, p46, p47, p48, p49, p50, p51, p52, p53, p54, p55, p56, p57, p58, p59, p60, p61, p62, p63, p64, p65, p66, p67] at hT
            clear hf q1 p0 p1 p2 p3 p4 p5 p6 p7 p8 p9 p10 p11 p12 p13 p14 p15 p16 p17 p18 p19 p20 p21 p22 p23 p24 p25 p26 p27 p28 p29 p30 p31 p32 p33 p34 p35 p36 p37 p38 p39 p40 p41 p42 p43 p44 p45 p46 p47 p48 p49 p50 p51 p52 p53 p54 p55 p56 p57 p58 p59 p60 p61 p62 p63 p64 p65 p66 p67 hs8 hsz2 hv ho hbW hbw HW
            subst hT
            simp only [List.filterMap_nil]
            go_wp2_with fail
            go_roundw
            case rel => exact ⟨j + 1, by omega, by go_num, BWW.out⟩
            case measure => simp [intOf]; omega
        · obtain rfl : j = path.length := by omega
          go_wp2_with fail
          go_roundw
          case rel => exact ⟨k + 1, by omega, by go_num, HB4.out.trans (HBL.out.mono HB4.out.size)⟩
          case measure => simp [intOf]; omega
    · obtain rfl : k = m := by omega
      go_wp2_with fail
      go_ret
      exact ⟨rfl, BR.out⟩
end Go.Proofs.YtdeikpifflkabaaDoor

/- What this text proves: where a way leads (the contracts of the reference's up and leads). The conditions: sizes of what is asked about; how the way lies in memory. the contract of the reference's leads. The conditions: sizes of what is asked about; how the way lies in memory. -/
import Derived.Test.YtdeikpifflkabaaDoorMerLeads
import Derived.Test.YtdeikpifflkabaaDoorEachTail
namespace Go.Proofs.YtdeikpifflkabaaDoor
open Go.RowKit Go.Shelf
set_option linter.unusedVariables false
set_option linter.unusedSimpArgs false

/-- A frame's slots, written out. -/
theorem lit_of {T : Array Value} {n : Nat} (h : T.size = n) (f : Nat → Value) (hf : ∀ i, T.getD i undef = f i) : T = ((List.range n).map f).toArray := by
  apply Array.ext
  · simp [h]
  · intro i h1 h2
    have := hf i
    simp [h1] at this
    simp [this]
/-- A new hash's place. -/
def NewH (N : Nat) (v : Value) (W : World) : Prop := ∃ g, v = .pointer (some ⟨g, 0, none⟩) ∧ N ≤ g ∧ Bk W g 26 (bts hash0).toArray
theorem stays_newh (N : Nat) : Remains (NewH N) := fun _ _ _ ⟨g, h1, h2, h3⟩ hb => ⟨g, h1, h2, h3.below hb h3.lt⟩
theorem upR_one {h : List UInt8} {i : Nat} (r : List (List UInt8)) : upR h i 1 r = (h, r.isEmpty) := by
  cases r with
  | nil => rw [upR, if_pos rfl]; rfl
  | cons x r => rw [upR, if_pos rfl]; rfl
theorem upR_none {h : List UInt8} {i n : Nat} (hn : n ≠ 1) : upR h i n [] = (h, false) := by rw [upR, if_neg hn]
theorem path_last {path : List (List UInt8)} {m : Nat} {x : List UInt8} (hm : path.length = m + 1) (hx : path[m]? = some x) : path.reverse = x :: (path.take m).reverse := by
  have h1 : path = path.take m ++ [x] := by rw [← take_at hx, List.take_of_length_le (by omega)]
  conv => lhs; rw [h1]
  rw [List.reverse_append]
  rfl
attribute [local irreducible] digF
set_option maxRecDepth 100000 in
set_option maxHeartbeats 8000000 in
theorem up_any : ∀ (m : Nat) (path : List (List UInt8)) (h : List UInt8) (i n : Nat) (A : Option Addr) (c : Nat) (w : World), path.length = m → m ≤ 1000 → m ≤ c → c ≤ maxLen → h32 path → h.length = 32 → 1 ≤ n → n ≤ 4096 → i ≤ 4096 → Sl w w.heap.size 32 A path.length (hCells path) →
    Calls Tryd.prog 56 #[.agg (bts h).toArray, .int .i64 (i : Int), .int .i64 (n : Int), .slice A m c] w fun e w' => e = .returned (.tuple #[.agg (bts (upR h i n path.reverse).1).toArray, .bool (upR h i n path.reverse).2]) ∧ Below w.heap.size w w' := by
  intro m
  induction m with
  | zero =>
    intro path h i n A c w hpl hm hmc hcm hp32 hh hn1 hn hi hA
    obtain rfl : path = [] := List.eq_nil_of_length_eq_zero hpl
    have hzh := zero_hash
    have h0l : (bts hash0).length = 32 := by rw [bts_len, hash0_len]
    have hbh : (bts h).length = 32 := by rw [bts_len, hh]
    obtain ⟨ga, hga⟩ : ∃ g, w.heap.size = g := ⟨_, rfl⟩
    have HGA := Lib.hid hga
    obtain ⟨J, hJ⟩ : ∃ J, h = J := ⟨_, rfl⟩
    subst hJ
    by_cases h1 : n = 1
    · subst h1
      have HRES : Hid (upR h i 1 [].reverse = (h, true)) := Lib.hid (by rw [upR_one]; rfl)
      go_enter Tryd.func56, Tryd.ntmps56
      go_upto_region 1 with fail
      have K0 := (Bk.new w 26 (bts h).toArray).alloc (.cells (bts hash0).toArray 26)
      have K1 := Bk.new (w.alloc (.cells (bts h).toArray 26)) 26 (bts hash0).toArray
      have L2 : Below w.heap.size w ((w.alloc (.cells (bts h).toArray 26)).alloc (.cells (bts hash0).toArray 26)) := (by (first | assumption | (repeat (first | exact Below.refl _ _ | assumption | apply Below.drew | apply below_drewN | (refine Below.setCell ?_ (by (try simp) <;> omega) _) | (refine Below.alloc ?_ (by (try simp) <;> omega) _)))))
      rw [World.size_alloc] at K1
      obtain ⟨w2, hw2⟩ : ∃ W, (w.alloc (.cells (bts h).toArray 26)).alloc (.cells (bts hash0).toArray 26) = W := ⟨_, rfl⟩
      rw [hw2] at K0 K1 L2 ⊢
      rw [hga] at K0 K1 L2
      have HK0 := Lib.hid K0
      have HK1 := Lib.hid K1
      have HL2 := Lib.hid L2
      clear hw2 K0 K1 L2 hga
      go_wp2_with (first
        | (refine wpList_val (by rfl) (run_ldh _ (by with_reducible rfl) ga 0 (by rfl) h hh (by exact HK0.out.all)) ?_)
        | (refine wpList_puts (by rfl) 26 _ _ (by with_reducible rfl) (ga + 1) 0 (by rfl) (bts h) (by rfl) 26 (bts hash0) (by exact HK1.out) 32 hbh (by rw [h0l]; omega) hi_hash bts_all ?_; intro w9 hb_ hm_ hz_; rw [put_hash0 _ hh] at hb_; have HR9 := Lib.hid hb_; have HM9 := Lib.hid hm_; clear hb_ hm_ hz_))
      refine bodyPost_ret (results_cell2 rfl _ _ (ga + 1) 26 (bts h).toArray (0, 0) _ (.bool true) (by rfl) (by rfl) HR9.out Tryd.underlying26 rfl (by rw [hi_hash]; simp [hbh])) rfl ?_
      exact ⟨by rw [HRES.out], by rw [HGA.out]; exact HL2.out.trans (HM9.out.to_below (by have := HL2.out.size; have := HGA.out; omega) (fun k _ e => by omega))⟩
    · have e1 : ((n : Int) == 1) = false := by simp; omega
      have HRES : Hid (upR h i n [].reverse = (h, false)) := Lib.hid (by rw [List.reverse_nil, upR_none h1])
      go_enter Tryd.func56, Tryd.ntmps56
      go_upto_region 1 with fail
      have K0 := (Bk.new w 26 (bts h).toArray).alloc (.cells (bts hash0).toArray 26)
      have K1 := Bk.new (w.alloc (.cells (bts h).toArray 26)) 26 (bts hash0).toArray
      have L2 : Below w.heap.size w ((w.alloc (.cells (bts h).toArray 26)).alloc (.cells (bts hash0).toArray 26)) := (by (first | assumption | (repeat (first | exact Below.refl _ _ | assumption | apply Below.drew | apply below_drewN | (refine Below.setCell ?_ (by (try simp) <;> omega) _) | (refine Below.alloc ?_ (by (try simp) <;> omega) _)))))
      rw [World.size_alloc] at K1
      obtain ⟨w2, hw2⟩ : ∃ W, (w.alloc (.cells (bts h).toArray 26)).alloc (.cells (bts hash0).toArray 26) = W := ⟨_, rfl⟩
      rw [hw2] at K0 K1 L2 ⊢
      rw [hga] at K0 K1 L2
      have HK0 := Lib.hid K0
      have HK1 := Lib.hid K1
      have HL2 := Lib.hid L2
      clear hw2 K0 K1 L2 hga
      go_wp2_with (first
        | (refine wpList_val (by rfl) (run_ldh _ (by with_reducible rfl) ga 0 (by rfl) h hh (by exact HK0.out.all)) ?_)
        | (refine wpList_puts (by rfl) 26 _ _ (by with_reducible rfl) (ga + 1) 0 (by rfl) (bts h) (by rfl) 26 (bts hash0) (by exact HK1.out) 32 hbh (by rw [h0l]; omega) hi_hash bts_all ?_; intro w9 hb_ hm_ hz_; rw [put_hash0 _ hh] at hb_; have HR9 := Lib.hid hb_; have HM9 := Lib.hid hm_; clear hb_ hm_ hz_))
      refine bodyPost_ret (results_cell2 rfl _ _ (ga + 1) 26 (bts h).toArray (0, 0) _ (.bool false) (by rfl) (by rfl) HR9.out Tryd.underlying26 rfl (by rw [hi_hash]; simp [hbh])) rfl ?_
      exact ⟨by rw [HRES.out], by rw [HGA.out]; exact HL2.out.trans (HM9.out.to_below (by have := HL2.out.size; have := HGA.out; omega) (fun k _ e => by omega))⟩
  | succ m ih =>
    intro path h i n A c w hpl hm hmc hcm hp32 hh hn1 hn hi hA
    have hzh := zero_hash
    have h0l : (bts hash0).length = 32 := by rw [bts_len, hash0_len]
    have hbh : (bts h).length = 32 := by rw [bts_len, hh]
    obtain ⟨ga, hga⟩ : ∃ g, w.heap.size = g := ⟨_, rfl⟩
    have HGA := Lib.hid hga
    have HA := Lib.hid hA
    have HP32 := Lib.hid hp32
    have IH := Lib.hid ih
    have HCM := Lib.hid hcm
    clear hA hp32 ih hcm
    by_cases h1 : n = 1
    · subst h1
      have HRES : Hid (upR h i 1 path.reverse = (h, false)) := Lib.hid (by
        rw [upR_one]
        cases hr : path.reverse with
        | nil => have := congrArg List.length hr; rw [List.length_reverse, hpl] at this; simp at this
        | cons => rfl)
      have e1 : ((m + 1 : Nat) : Int) ≠ 0 := by omega
      go_enter Tryd.func56, Tryd.ntmps56
      go_upto_region 1 with fail
      have K0 := (Bk.new w 26 (bts h).toArray).alloc (.cells (bts hash0).toArray 26)
      have K1 := Bk.new (w.alloc (.cells (bts h).toArray 26)) 26 (bts hash0).toArray
      have L2 : Below w.heap.size w ((w.alloc (.cells (bts h).toArray 26)).alloc (.cells (bts hash0).toArray 26)) := (by (first | assumption | (repeat (first | exact Below.refl _ _ | assumption | apply Below.drew | apply below_drewN | (refine Below.setCell ?_ (by (try simp) <;> omega) _) | (refine Below.alloc ?_ (by (try simp) <;> omega) _)))))
      rw [World.size_alloc] at K1
      obtain ⟨w2, hw2⟩ : ∃ W, (w.alloc (.cells (bts h).toArray 26)).alloc (.cells (bts hash0).toArray 26) = W := ⟨_, rfl⟩
      rw [hw2] at K0 K1 L2 ⊢
      rw [hga] at K0 K1 L2
      have HK0 := Lib.hid K0
      have HK1 := Lib.hid K1
      have HL2 := Lib.hid L2
      clear hw2 K0 K1 L2 hga
      go_wp2_with (first
        | (refine wpList_val (by rfl) (run_ldh _ (by with_reducible rfl) ga 0 (by rfl) h hh (by exact HK0.out.all)) ?_)
        | (refine wpList_puts (by rfl) 26 _ _ (by with_reducible rfl) (ga + 1) 0 (by rfl) (bts h) (by rfl) 26 (bts hash0) (by exact HK1.out) 32 hbh (by rw [h0l]; omega) hi_hash bts_all ?_; intro w9 hb_ hm_ hz_; rw [put_hash0 _ hh] at hb_; have HR9 := Lib.hid hb_; have HM9 := Lib.hid hm_; clear hb_ hm_ hz_))
      refine bodyPost_ret (results_cell2 rfl _ _ (ga + 1) 26 (bts h).toArray (0, 0) _ (.bool false) (by rfl) (by rfl) HR9.out Tryd.underlying26 rfl (by rw [hi_hash]; simp [hbh])) rfl ?_
      exact ⟨by rw [HRES.out], by rw [HGA.out]; exact HL2.out.trans (HM9.out.to_below (by have := HL2.out.size; have := HGA.out; omega) (fun k _ e => by omega))⟩
    have e1 : ((n : Int) == 1) = false := by simp; omega
    obtain ⟨b, off, x, rfl, hb, hx, hrg⟩ := HA.out.hsh HP32.out (k := m) (by omega)
    have hxl : x.length = 32 := HP32.out.at_ hx
    have hbx : (bts x).length = 32 := by rw [bts_len, hxl]
    have hrev := path_last hpl hx
    have htl : (path.take m).length = m := by rw [List.length_take]; omega
    obtain ⟨k, hk⟩ : ∃ k, splitN n = k := ⟨_, rfl⟩
    have hkn := splitN_lt (n := n) (by omega)
    have hk1 := splitN_pos n
    have hsp := rsplit_any n (by omega) (by omega)
    rw [hk] at hkn hk1 hsp
    have HSP := Lib.hid hsp
    have HRG := Lib.hid hrg
    clear hsp hx hrg
    go_enter Tryd.func56, Tryd.ntmps56
    go_upto_region 1 with fail
    have K0 := (Bk.new w 26 (bts h).toArray).alloc (.cells (bts hash0).toArray 26)
    have K1 := Bk.new (w.alloc (.cells (bts h).toArray 26)) 26 (bts hash0).toArray
    have L2 : Below w.heap.size w ((w.alloc (.cells (bts h).toArray 26)).alloc (.cells (bts hash0).toArray 26)) := (by (first | assumption | (repeat (first | exact Below.refl _ _ | assumption | apply Below.drew | apply below_drewN | (refine Below.setCell ?_ (by (try simp) <;> omega) _) | (refine Below.alloc ?_ (by (try simp) <;> omega) _)))))
    rw [World.size_alloc] at K1
    obtain ⟨w2, hw2⟩ : ∃ W, (w.alloc (.cells (bts h).toArray 26)).alloc (.cells (bts hash0).toArray 26) = W := ⟨_, rfl⟩
    have z2 : w2.heap.size = ga + 2 := by rw [← hw2, World.size_alloc, World.size_alloc, hga]
    have rX := rangeAt_below HRG.out (hw2 ▸ L2) hb
    rw [hw2] at K0 K1 L2 ⊢
    rw [hga] at K0 K1 L2
    have HK0 := Lib.hid K0
    have HK1 := Lib.hid K1
    have HL2 := Lib.hid L2
    have HZ2 := Lib.hid z2
    have HRX := Lib.hid rX
    clear hw2 K0 K1 L2 hga z2 rX
    have e2 : ((m + 1 : Nat) : Int) - 1 = (m : Int) := by omega
    have e2' : (m : Int) < ((m + 1 : Nat) : Int) := by omega
    go_upto_region 7 with (first
      | (go_at_call 30; with_reducible refine (HSP.out _).mono ?_; rintro en w1 ⟨rfl, hw1⟩; rw [hw1]; clear hw1)
      | (refine wpList_val (by rfl) (run_ldh _ (by with_reducible rfl) b (off + m * 32) (by rfl) x hxl (by exact HRX.out)) ?_)
      | (refine wpList_puts (by rfl) 26 _ _ (by with_reducible rfl) _ 0 (by rfl) (bts x) (by rfl) 26 (bts hash0) (by exact Bk.new _ _ _) 32 hbx (by rw [h0l]; omega) hi_hash bts_all ?_; intro w3 hb_ hm_ hz_; rw [put_hash0 _ hxl] at hb_; have KX3 := Lib.hid hb_; have M3 := Lib.hid hm_; clear hb_ hm_ hz_))
    have L23 : Below w2.heap.size w2 w3 := ((Below.refl w2.heap.size w2).alloc (Nat.le_refl _) (.cells (bts hash0).toArray 26)).trans (M3.out.to_below (by simp) (fun k_ o e => by rw [e]; exact Nat.le_refl _))
    have KX_ := KX3.out
    obtain ⟨g2, hg2⟩ : ∃ g, w2.heap.size = g := ⟨_, rfl⟩
    have hga2 : ga + 2 = g2 := by rw [← hg2, HZ2.out]
    rw [hg2] at KX_ ⊢
    have KX := Lib.hid KX_
    have KK0 := Lib.hid (HK0.out.below L23 HK0.out.lt)
    have KK1 := Lib.hid (HK1.out.below L23 HK1.out.lt)
    have KL3 := Lib.hid (HL2.out.trans (L23.mono (by omega)))
    clear KX_ KX3 M3 L23 hg2 HK0 HK1 HL2 HZ2 HRX HSP e1 e2 e2'
    by_cases hik : i < k
    · skip
      have e3 : decide ((i : Int) < (k : Int)) = true := decide_eq_true (by omega)
      have hup : upR h i n path.reverse = (pairF (upR h i k (path.take m).reverse).1 x, (upR h i k (path.take m).reverse).2) := by
        rw [hrev, upR, if_neg h1, if_pos (by rw [hk]; exact hik), hk]
      obtain ⟨U, hU⟩ : ∃ U, (upR h i k (path.take m).reverse).1 = U := ⟨_, rfl⟩
      obtain ⟨bo, hbo⟩ : ∃ b, (upR h i k (path.take m).reverse).2 = b := ⟨_, rfl⟩
      have hUl : U.length = 32 := by rw [← hU]; exact upR_len hh _ _ _
      have hbU : (bts U).length = 32 := by rw [bts_len, hUl]
      rw [hU, hbo] at hup
      obtain ⟨J, hJ⟩ : ∃ J, pairF U x = J := ⟨_, rfl⟩
      have hJl : J.length = 32 := by rw [← hJ, pairF_len]
      have hbJ : (bts J).length = 32 := by rw [bts_len, hJl]
      rw [hJ] at hup
      have HUP := Lib.hid hup
      have HTWO := Lib.hid (show ∀ W, Calls Tryd.prog 53 #[.agg (bts U).toArray, .agg (bts x).toArray] W fun e w' => e = .returned (.agg (bts J).toArray) ∧ Below W.heap.size W w' from fun W => by
        have := rtwo_any U x hUl hxl W
        rwa [hJ] at this)
      have HREC := Lib.hid (show ∀ W, Below ga w W → Calls Tryd.prog 56 #[.agg (bts h).toArray, .int .i64 (i : Int), .int .i64 (k : Int), .slice (some ⟨b, off, none⟩) m c] W fun e w' => e = .returned (.tuple #[.agg (bts U).toArray, .bool bo]) ∧ Below W.heap.size W w' from fun W hW => by
        have hW' : Below w.heap.size w W := hW.mono (Nat.le_of_eq HGA.out)
        have := IH.out (path.take m) h i k (some ⟨b, off, none⟩) c W htl (by omega) (by omega) HCM.out (HP32.out.take m) hh (by omega) (by omega) (by omega) (((HA.out.htake HP32.out (by omega)).below hW').more hW'.size)
        rw [hU, hbo] at this
        exact this)
      clear hU hbo hJ hup hrev hk
      go_upto_region 8 with fail
      have HW : Hid (∀ W, Below w3.drew.heap.size w3.drew W → Bk W ga 26 (bts h).toArray ∧ Bk W (ga + 1) 26 (bts hash0).toArray ∧ Bk W g2 26 (bts x).toArray ∧ Below ga w W ∧ g2 + 1 ≤ W.heap.size) := Lib.hid (fun W hb =>
        have hd : Below w3.heap.size w3 w3.drew := (Below.refl _ _).drew
        have h0 : Below w3.heap.size w3 W := hd.trans (hb.mono (Nat.le_refl _))
        have h1 : Below ga w W := KL3.out.trans (h0.mono (by have := KL3.out.size; have := HGA.out; omega))
        ⟨KK0.out.below h0 KK0.out.lt, KK1.out.below h0 KK1.out.lt, KX.out.below h0 KX.out.lt, h1, by have := h0.size; have := KX.out.lt; omega⟩)
      refine wp_region_each_lazy 13 11 (lstV [fun v _ => v = .agg (bts h).toArray, fun v _ => v = .int .i64 (i : Int), fun v _ => v = .int .i64 (k : Int), fun v _ => v = .slice (some ⟨b, off, none⟩) (m + 1) c, fun v _ => v = .slice (some ⟨b, off, none⟩) (m + 1) c, fun v _ => v = .int .i64 ((m + 1 : Nat) : Int), fun v _ => v = .int .i64 (m : Int), fun v _ => v = .slice (some ⟨b, off, none⟩) m c, fun v _ => v = .tuple #[.agg (bts U).toArray, .bool bo], fun v _ => v = .tuple #[.agg (bts U).toArray, .bool bo], fun v _ => v = .agg (bts U).toArray, fun v _ => v = .bool bo, NewH (g2 + 1)]) (by kernel_rfl) (by kernel_rfl) (lstV_on (by repeat' (first | exact forall_nil | refine forall_cons ?_ ?_ | exact stays_newh _ | exact stays_eq _))) ?turns ?hq ?lazy ?fin
      case turns =>
        refine ⟨fun a W pre => ?_, fun a W pre => ?_, fun a W pre => ?_, fun a W pre => ?_, fun a W pre => ?_, fun a W pre => ?_, fun a W pre => ?_, fun a W pre => ?_, fun a W pre => ?_, fun a W pre => ?_, fun a W pre => ?_, fun a W pre => ?_, fun a W pre => ?_, trivial⟩
        · refine .inl ?_
          have q0 : a.eval (.tmp 4) = .pointer (some ⟨ga, 0, none⟩) := pre.was 4 (by kernel_rfl) rfl
          exact does_val (want_none rfl) (run_ldh _ rfl ga 0 q0 h hh (HW.out W pre.b).1.all) rfl
        · refine .inl ?_
          have q0 : a.eval (.tmp 1) = .int .i64 (i : Int) := pre.was 1 (by kernel_rfl) rfl
          rw [Act.eval, Array.getD_eq_getD_getElem?] at q0
          exact does_val (want_none rfl) (by go_simp) rfl
        · refine .inl ?_
          have q0 : a.eval (.tmp 10) = .int .i64 (k : Int) := pre.was 10 (by kernel_rfl) rfl
          rw [Act.eval, Array.getD_eq_getD_getElem?] at q0
          exact does_val (want_none rfl) (by go_simp) rfl
        · refine .inl ?_
          have q0 : a.eval (.tmp 3) = .slice (some ⟨b, off, none⟩) (m + 1) c := pre.was 3 (by kernel_rfl) rfl
          rw [Act.eval, Array.getD_eq_getD_getElem?] at q0
          exact does_val (want_none rfl) (by go_simp) rfl
        · refine .inl ?_
          have q0 : a.eval (.tmp 3) = .slice (some ⟨b, off, none⟩) (m + 1) c := pre.was 3 (by kernel_rfl) rfl
          rw [Act.eval, Array.getD_eq_getD_getElem?] at q0
          exact does_val (want_none rfl) (by go_simp) rfl
        · refine .inl ?_
          have q0 : a.eval (.tmp 42) = .slice (some ⟨b, off, none⟩) (m + 1) c := pre.val 4 42 (by kernel_rfl) (by kernel_rfl)
          rw [Act.eval, Array.getD_eq_getD_getElem?] at q0
          exact does_val (want_none rfl) (by go_simp) rfl
        · refine .inl ?_
          have q0 : a.eval (.tmp 43) = .int .i64 ((m + 1 : Nat) : Int) := pre.val 5 43 (by kernel_rfl) (by kernel_rfl)
          rw [Act.eval, Array.getD_eq_getD_getElem?] at q0
          have e8 : ((m + 1 : Nat) : Int) - 1 = (m : Int) := by omega
          have e9 : IntKind.i64.wrap (m : Int) = (m : Int) := IntWalk.i64_in _ (by omega)
          exact does_val (want_none rfl) (by go_simp) rfl
        · refine .inl ?_
          have q0 : a.eval (.tmp 41) = .slice (some ⟨b, off, none⟩) (m + 1) c := pre.val 3 41 (by kernel_rfl) (by kernel_rfl)
          have q1 : a.eval (.tmp 44) = .int .i64 (m : Int) := pre.val 6 44 (by kernel_rfl) (by kernel_rfl)
          rw [Act.eval, Array.getD_eq_getD_getElem?] at q0 q1
          have hmc_ : m ≤ c := by omega
          exact does_val (want_none rfl) (by go_simp) rfl
        · refine .inl ?_
          have q0 : a.eval (.tmp 38) = .agg (bts h).toArray := pre.val 0 38 (by kernel_rfl) (by kernel_rfl)
          have q1 : a.eval (.tmp 39) = .int .i64 (i : Int) := pre.val 1 39 (by kernel_rfl) (by kernel_rfl)
          have q2 : a.eval (.tmp 40) = .int .i64 (k : Int) := pre.val 2 40 (by kernel_rfl) (by kernel_rfl)
          have q3 : a.eval (.tmp 45) = .slice (some ⟨b, off, none⟩) m c := pre.val 7 45 (by kernel_rfl) (by kernel_rfl)
          rw [Act.eval, Array.getD_eq_getD_getElem?] at q0 q1 q2 q3
          exact does_call (want_none rfl) (by go_simp) (HREC.out W (HW.out W pre.b).2.2.2.1) (fun _ => rfl)
        · refine .inl ?_
          have q0 : a.eval (.tmp 46) = .tuple #[.agg (bts U).toArray, .bool bo] := pre.val 8 46 (by kernel_rfl) (by kernel_rfl)
          rw [Act.eval, Array.getD_eq_getD_getElem?] at q0
          exact does_val (want_none rfl) (by go_simp) rfl
        · refine .inl ?_
          have q0 : a.eval (.tmp 37) = .tuple #[.agg (bts U).toArray, .bool bo] := pre.val 9 37 (by kernel_rfl) (by kernel_rfl)
          rw [Act.eval, Array.getD_eq_getD_getElem?] at q0
          exact does_val (want_none rfl) (by go_simp) rfl
        · refine .inl ?_
          have q0 : a.eval (.tmp 37) = .tuple #[.agg (bts U).toArray, .bool bo] := pre.val 9 37 (by kernel_rfl) (by kernel_rfl)
          rw [Act.eval, Array.getD_eq_getD_getElem?] at q0
          exact does_val (want_none rfl) (by go_simp) rfl
        · refine .inl ?_
          have hb_ : Below W.heap.size W (W.alloc (.cells (bts hash0).toArray 26)) := (by (first | assumption | (repeat (first | exact Below.refl _ _ | assumption | apply Below.drew | apply below_drewN | (refine Below.setCell ?_ (by (try simp) <;> omega) _) | (refine Below.alloc ?_ (by (try simp) <;> omega) _)))))
          exact does_new (want_none rfl) (by go_simp) hb_ ⟨W.heap.size, rfl, (HW.out W pre.b).2.2.2.2, Bk.new W _ _⟩
      case hq => intro c_ a_ d_ v_ w_ h_; cases d_ <;> exact h_
      case lazy =>
        intro o hoz a W pre
        obtain rfl : _ = o := Option.some.inj hoz
        have q0 : a.eval (.tmp 37) = .tuple #[.agg (bts U).toArray, .bool bo] := pre.val 9 37 (by kernel_rfl) (by kernel_rfl)
        rw [Act.eval, Array.getD_eq_getD_getElem?] at q0
        exact ⟨.bool bo, want_none rfl, fun W_ => by go_simp, rfl⟩
      case fin =>
        intro a W hbW hsz2 hd hv ho
        obtain ⟨T, D⟩ := a
        obtain rfl : D = [] := hd
        have hs8 : T.size = 73 := by rw [show T.size = _ from hsz2]; rfl
        obtain ⟨hbh, hbr, hbx_, hbw, hbs⟩ := HW.out W hbW
        obtain ⟨gq, q1, q1n, q1k⟩ : NewH (g2 + 1) (T.getD 12 undef) W := hv 12 12 (by decide) (by kernel_rfl)
        have q2 : T.getD 47 undef = .agg (bts U).toArray := hv 10 47 (by decide) (by kernel_rfl)
        have q3 : T.getD 48 undef = .bool bo := hv 11 48 (by decide) (by kernel_rfl)
        have q4 : T.getD 8 undef = .pointer (some ⟨ga + 1, 0, none⟩) := ho 8 (no_dst (by kernel_rfl))
        have q5 : T.getD 11 undef = .pointer (some ⟨g2, 0, none⟩) := ho 11 (no_dst (by kernel_rfl))
        obtain ⟨f, hf⟩ : ∃ f : Nat → Value, ∀ i, T.getD i undef = f i := ⟨_, fun _ => rfl⟩
        have hT := lit_of hs8 f hf
        rw [hf] at q1 q2 q3 q4 q5
        simp only [List.range, List.range.loop, List.map_cons, List.map_nil, q1, q2, q3, q4, q5] at hT
        clear hf q1 q2 q3 q4 q5 hs8 hsz2 hv ho
        subst hT
        have QK := Lib.hid q1k
        have QX := Lib.hid hbx_
        have QR := Lib.hid hbr
        have QW := Lib.hid hbw
        have hgq : g2 < gq := by omega
        clear q1k hbx_ hbr hbw hbh hbW HW HREC IH KK0 KK1 KX KL3
        simp only [List.drop_succ_cons, List.drop_zero]
        go_wp2_with (first
          | (refine wpList_puts (by rfl) 26 _ _ (by with_reducible rfl) gq 0 (by rfl) (bts U) (by rfl) 26 (bts hash0) (by exact QK.out) 32 hbU (by rw [h0l]; omega) hi_hash bts_all ?_; intro w7 hb_ hm_ hz_; rw [put_hash0 _ hUl] at hb_; have QU := Lib.hid hb_; have QX7 := Lib.hid (hm_.bk QX.out (by omega)); have QR7 := Lib.hid (hm_.bk QR.out (by omega)); have QW7 := Lib.hid (QW.out.trans (hm_.to_below (by have := QW.out.size; have := HGA.out; omega) (fun k_ o e => by rw [e]; omega))); clear hb_ hm_ hz_)
          | (refine wpList_val (by rfl) (run_ldh _ (by with_reducible rfl) gq 0 (by rfl) U hUl (by exact QU.out.all)) ?_)
          | (refine wpList_val (by rfl) (run_ldh _ (by with_reducible rfl) g2 0 (by rfl) x hxl (by exact QX7.out.all)) ?_))
        with_reducible refine (HTWO.out _).mono ?_
        rintro en w8 ⟨rfl, hb8⟩
        have QR8 := Lib.hid (QR7.out.below hb8 QR7.out.lt)
        have QW8 := Lib.hid (QW7.out.trans (hb8.mono (by have := QW7.out.size; have := HGA.out; omega)))
        clear hb8 HTWO QX7 QU
        go_wp2_with (refine wpList_puts (by rfl) 26 _ _ (by with_reducible rfl) (ga + 1) 0 (by rfl) (bts J) (by rfl) 26 (bts hash0) (by exact QR8.out) 32 hbJ (by rw [h0l]; omega) hi_hash bts_all ?_; intro w9 hb_ hm_ hz_; rw [put_hash0 _ hJl] at hb_; have HR9 := Lib.hid hb_; have HM9 := Lib.hid hm_; clear hb_ hm_ hz_)
        refine bodyPost_ret (results_cell2 rfl _ _ (ga + 1) 26 (bts J).toArray (0, 0) _ (.bool bo) (by rfl) (by rfl) HR9.out Tryd.underlying26 rfl (by rw [hi_hash]; simp [hbJ])) rfl ?_
        exact ⟨by rw [HUP.out], by rw [HGA.out]; exact QW8.out.trans (HM9.out.to_below (by have := QW8.out.size; have := HGA.out; omega) (fun k_ _ e => by omega))⟩
    · skip
      have e3 : decide ((i : Int) < (k : Int)) = false := decide_eq_false (by omega)
      have hup : upR h i n path.reverse = (pairF x (upR h (i - k) (n - k) (path.take m).reverse).1, (upR h (i - k) (n - k) (path.take m).reverse).2) := by
        rw [hrev, upR, if_neg h1, if_neg (by rw [hk]; exact hik), hk]
      have e4 : (i : Int) - (k : Int) = ((i - k : Nat) : Int) := by omega
      have e5 : (n : Int) - (k : Int) = ((n - k : Nat) : Int) := by omega
      obtain ⟨i2, hi2⟩ : ∃ q, i - k = q := ⟨_, rfl⟩
      obtain ⟨n2, hn2⟩ : ∃ q, n - k = q := ⟨_, rfl⟩
      have e6 : IntKind.i64.wrap (i2 : Int) = (i2 : Int) := IntWalk.i64_in _ (by omega)
      have e7 : IntKind.i64.wrap (n2 : Int) = (n2 : Int) := IntWalk.i64_in _ (by omega)
      have hi24 : i2 ≤ 4096 := by omega
      have hn24 : 1 ≤ n2 ∧ n2 ≤ 4096 := by omega
      rw [hi2] at e4 hup
      rw [hn2] at e5 hup
      obtain ⟨U, hU⟩ : ∃ U, (upR h i2 n2 (path.take m).reverse).1 = U := ⟨_, rfl⟩
      obtain ⟨bo, hbo⟩ : ∃ b, (upR h i2 n2 (path.take m).reverse).2 = b := ⟨_, rfl⟩
      have hUl : U.length = 32 := by rw [← hU]; exact upR_len hh _ _ _
      have hbU : (bts U).length = 32 := by rw [bts_len, hUl]
      rw [hU, hbo] at hup
      obtain ⟨J, hJ⟩ : ∃ J, pairF x U = J := ⟨_, rfl⟩
      have hJl : J.length = 32 := by rw [← hJ, pairF_len]
      have hbJ : (bts J).length = 32 := by rw [bts_len, hJl]
      rw [hJ] at hup
      have HUP := Lib.hid hup
      have HTWO := Lib.hid (show ∀ W, Calls Tryd.prog 53 #[.agg (bts x).toArray, .agg (bts U).toArray] W fun e w' => e = .returned (.agg (bts J).toArray) ∧ Below W.heap.size W w' from fun W => by
        have := rtwo_any x U hxl hUl W
        rwa [hJ] at this)
      have HREC := Lib.hid (show ∀ W, Below ga w W → Calls Tryd.prog 56 #[.agg (bts h).toArray, .int .i64 (i2 : Int), .int .i64 (n2 : Int), .slice (some ⟨b, off, none⟩) m c] W fun e w' => e = .returned (.tuple #[.agg (bts U).toArray, .bool bo]) ∧ Below W.heap.size W w' from fun W hW => by
        have hW' : Below w.heap.size w W := hW.mono (Nat.le_of_eq HGA.out)
        have := IH.out (path.take m) h i2 n2 (some ⟨b, off, none⟩) c W htl (by omega) (by omega) HCM.out (HP32.out.take m) hh hn24.1 hn24.2 hi24 (((HA.out.htake HP32.out (by omega)).below hW').more hW'.size)
        rw [hU, hbo] at this
        exact this)
      clear hU hbo hJ hup hrev hk
      go_upto_region 10 with fail
      have HW : Hid (∀ W, Below w3.drew.heap.size w3.drew W → Bk W ga 26 (bts h).toArray ∧ Bk W (ga + 1) 26 (bts hash0).toArray ∧ Bk W g2 26 (bts x).toArray ∧ Below ga w W ∧ g2 + 1 ≤ W.heap.size) := Lib.hid (fun W hb =>
        have hd : Below w3.heap.size w3 w3.drew := (Below.refl _ _).drew
        have h0 : Below w3.heap.size w3 W := hd.trans (hb.mono (Nat.le_refl _))
        have h1 : Below ga w W := KL3.out.trans (h0.mono (by have := KL3.out.size; have := HGA.out; omega))
        ⟨KK0.out.below h0 KK0.out.lt, KK1.out.below h0 KK1.out.lt, KX.out.below h0 KX.out.lt, h1, by have := h0.size; have := KX.out.lt; omega⟩)
      refine wp_region_each_lazy 17 15 (lstV [fun v _ => v = .agg (bts h).toArray, fun v _ => v = .int .i64 (i : Int), fun v _ => v = .int .i64 (k : Int), fun v _ => v = .int .i64 (i2 : Int), fun v _ => v = .int .i64 (n : Int), fun v _ => v = .int .i64 (k : Int), fun v _ => v = .int .i64 (n2 : Int), fun v _ => v = .slice (some ⟨b, off, none⟩) (m + 1) c, fun v _ => v = .slice (some ⟨b, off, none⟩) (m + 1) c, fun v _ => v = .int .i64 ((m + 1 : Nat) : Int), fun v _ => v = .int .i64 (m : Int), fun v _ => v = .slice (some ⟨b, off, none⟩) m c, fun v _ => v = .tuple #[.agg (bts U).toArray, .bool bo], fun v _ => v = .tuple #[.agg (bts U).toArray, .bool bo], fun v _ => v = .agg (bts U).toArray, fun v _ => v = .bool bo, NewH (g2 + 1)]) (by kernel_rfl) (by kernel_rfl) (lstV_on (by repeat' (first | exact forall_nil | refine forall_cons ?_ ?_ | exact stays_newh _ | exact stays_eq _))) ?turns ?hq ?lazy ?fin
      case turns =>
        refine ⟨fun a W pre => ?_, fun a W pre => ?_, fun a W pre => ?_, fun a W pre => ?_, fun a W pre => ?_, fun a W pre => ?_, fun a W pre => ?_, fun a W pre => ?_, fun a W pre => ?_, fun a W pre => ?_, fun a W pre => ?_, fun a W pre => ?_, fun a W pre => ?_, fun a W pre => ?_, fun a W pre => ?_, fun a W pre => ?_, fun a W pre => ?_, trivial⟩
        · refine .inl ?_
          have q0 : a.eval (.tmp 4) = .pointer (some ⟨ga, 0, none⟩) := pre.was 4 (by kernel_rfl) rfl
          exact does_val (want_none rfl) (run_ldh _ rfl ga 0 q0 h hh (HW.out W pre.b).1.all) rfl
        · refine .inl ?_
          have q0 : a.eval (.tmp 1) = .int .i64 (i : Int) := pre.was 1 (by kernel_rfl) rfl
          rw [Act.eval, Array.getD_eq_getD_getElem?] at q0
          exact does_val (want_none rfl) (by go_simp) rfl
        · refine .inl ?_
          have q0 : a.eval (.tmp 10) = .int .i64 (k : Int) := pre.was 10 (by kernel_rfl) rfl
          rw [Act.eval, Array.getD_eq_getD_getElem?] at q0
          exact does_val (want_none rfl) (by go_simp) rfl
        · refine .inl ?_
          have q0 : a.eval (.tmp 55) = .int .i64 (i : Int) := pre.val 1 55 (by kernel_rfl) (by kernel_rfl)
          have q1 : a.eval (.tmp 56) = .int .i64 (k : Int) := pre.val 2 56 (by kernel_rfl) (by kernel_rfl)
          rw [Act.eval, Array.getD_eq_getD_getElem?] at q0 q1
          exact does_val (want_none rfl) (by go_simp) rfl
        · refine .inl ?_
          have q0 : a.eval (.tmp 2) = .int .i64 (n : Int) := pre.was 2 (by kernel_rfl) rfl
          rw [Act.eval, Array.getD_eq_getD_getElem?] at q0
          exact does_val (want_none rfl) (by go_simp) rfl
        · refine .inl ?_
          have q0 : a.eval (.tmp 10) = .int .i64 (k : Int) := pre.was 10 (by kernel_rfl) rfl
          rw [Act.eval, Array.getD_eq_getD_getElem?] at q0
          exact does_val (want_none rfl) (by go_simp) rfl
        · refine .inl ?_
          have q0 : a.eval (.tmp 58) = .int .i64 (n : Int) := pre.val 4 58 (by kernel_rfl) (by kernel_rfl)
          have q1 : a.eval (.tmp 59) = .int .i64 (k : Int) := pre.val 5 59 (by kernel_rfl) (by kernel_rfl)
          rw [Act.eval, Array.getD_eq_getD_getElem?] at q0 q1
          exact does_val (want_none rfl) (by go_simp) rfl
        · refine .inl ?_
          have q0 : a.eval (.tmp 3) = .slice (some ⟨b, off, none⟩) (m + 1) c := pre.was 3 (by kernel_rfl) rfl
          rw [Act.eval, Array.getD_eq_getD_getElem?] at q0
          exact does_val (want_none rfl) (by go_simp) rfl
        · refine .inl ?_
          have q0 : a.eval (.tmp 3) = .slice (some ⟨b, off, none⟩) (m + 1) c := pre.was 3 (by kernel_rfl) rfl
          rw [Act.eval, Array.getD_eq_getD_getElem?] at q0
          exact does_val (want_none rfl) (by go_simp) rfl
        · refine .inl ?_
          have q0 : a.eval (.tmp 62) = .slice (some ⟨b, off, none⟩) (m + 1) c := pre.val 8 62 (by kernel_rfl) (by kernel_rfl)
          rw [Act.eval, Array.getD_eq_getD_getElem?] at q0
          exact does_val (want_none rfl) (by go_simp) rfl
        · refine .inl ?_
          have q0 : a.eval (.tmp 63) = .int .i64 ((m + 1 : Nat) : Int) := pre.val 9 63 (by kernel_rfl) (by kernel_rfl)
          rw [Act.eval, Array.getD_eq_getD_getElem?] at q0
          have e8 : ((m + 1 : Nat) : Int) - 1 = (m : Int) := by omega
          have e9 : IntKind.i64.wrap (m : Int) = (m : Int) := IntWalk.i64_in _ (by omega)
          exact does_val (want_none rfl) (by go_simp) rfl
        · refine .inl ?_
          have q0 : a.eval (.tmp 61) = .slice (some ⟨b, off, none⟩) (m + 1) c := pre.val 7 61 (by kernel_rfl) (by kernel_rfl)
          have q1 : a.eval (.tmp 64) = .int .i64 (m : Int) := pre.val 10 64 (by kernel_rfl) (by kernel_rfl)
          rw [Act.eval, Array.getD_eq_getD_getElem?] at q0 q1
          have hmc_ : m ≤ c := by omega
          exact does_val (want_none rfl) (by go_simp) rfl
        · refine .inl ?_
          have q0 : a.eval (.tmp 54) = .agg (bts h).toArray := pre.val 0 54 (by kernel_rfl) (by kernel_rfl)
          have q1 : a.eval (.tmp 57) = .int .i64 (i2 : Int) := pre.val 3 57 (by kernel_rfl) (by kernel_rfl)
          have q2 : a.eval (.tmp 60) = .int .i64 (n2 : Int) := pre.val 6 60 (by kernel_rfl) (by kernel_rfl)
          have q3 : a.eval (.tmp 65) = .slice (some ⟨b, off, none⟩) m c := pre.val 11 65 (by kernel_rfl) (by kernel_rfl)
          rw [Act.eval, Array.getD_eq_getD_getElem?] at q0 q1 q2 q3
          exact does_call (want_none rfl) (by go_simp) (HREC.out W (HW.out W pre.b).2.2.2.1) (fun _ => rfl)
        · refine .inl ?_
          have q0 : a.eval (.tmp 66) = .tuple #[.agg (bts U).toArray, .bool bo] := pre.val 12 66 (by kernel_rfl) (by kernel_rfl)
          rw [Act.eval, Array.getD_eq_getD_getElem?] at q0
          exact does_val (want_none rfl) (by go_simp) rfl
        · refine .inl ?_
          have q0 : a.eval (.tmp 53) = .tuple #[.agg (bts U).toArray, .bool bo] := pre.val 13 53 (by kernel_rfl) (by kernel_rfl)
          rw [Act.eval, Array.getD_eq_getD_getElem?] at q0
          exact does_val (want_none rfl) (by go_simp) rfl
        · refine .inl ?_
          have q0 : a.eval (.tmp 53) = .tuple #[.agg (bts U).toArray, .bool bo] := pre.val 13 53 (by kernel_rfl) (by kernel_rfl)
          rw [Act.eval, Array.getD_eq_getD_getElem?] at q0
          exact does_val (want_none rfl) (by go_simp) rfl
        · refine .inl ?_
          have hb_ : Below W.heap.size W (W.alloc (.cells (bts hash0).toArray 26)) := (by (first | assumption | (repeat (first | exact Below.refl _ _ | assumption | apply Below.drew | apply below_drewN | (refine Below.setCell ?_ (by (try simp) <;> omega) _) | (refine Below.alloc ?_ (by (try simp) <;> omega) _)))))
          exact does_new (want_none rfl) (by go_simp) hb_ ⟨W.heap.size, rfl, (HW.out W pre.b).2.2.2.2, Bk.new W _ _⟩
      case hq => intro c_ a_ d_ v_ w_ h_; cases d_ <;> exact h_
      case lazy =>
        intro o hoz a W pre
        obtain rfl : _ = o := Option.some.inj hoz
        have q0 : a.eval (.tmp 53) = .tuple #[.agg (bts U).toArray, .bool bo] := pre.val 13 53 (by kernel_rfl) (by kernel_rfl)
        rw [Act.eval, Array.getD_eq_getD_getElem?] at q0
        exact ⟨.bool bo, want_none rfl, fun W_ => by go_simp, rfl⟩
      case fin =>
        intro a W hbW hsz2 hd hv ho
        obtain ⟨T, D⟩ := a
        obtain rfl : D = [] := hd
        have hs8 : T.size = 73 := by rw [show T.size = _ from hsz2]; rfl
        obtain ⟨hbh, hbr, hbx_, hbw, hbs⟩ := HW.out W hbW
        obtain ⟨gq, q1, q1n, q1k⟩ : NewH (g2 + 1) (T.getD 14 undef) W := hv 16 14 (by decide) (by kernel_rfl)
        have q2 : T.getD 67 undef = .agg (bts U).toArray := hv 14 67 (by decide) (by kernel_rfl)
        have q3 : T.getD 68 undef = .bool bo := hv 15 68 (by decide) (by kernel_rfl)
        have q4 : T.getD 8 undef = .pointer (some ⟨ga + 1, 0, none⟩) := ho 8 (no_dst (by kernel_rfl))
        have q5 : T.getD 11 undef = .pointer (some ⟨g2, 0, none⟩) := ho 11 (no_dst (by kernel_rfl))
        obtain ⟨f, hf⟩ : ∃ f : Nat → Value, ∀ i, T.getD i undef = f i := ⟨_, fun _ => rfl⟩
        have hT := lit_of hs8 f hf
        rw [hf] at q1 q2 q3 q4 q5
        simp only [List.range, List.range.loop, List.map_cons, List.map_nil, q1, q2, q3, q4, q5] at hT
        clear hf q1 q2 q3 q4 q5 hs8 hsz2 hv ho
        subst hT
        have QK := Lib.hid q1k
        have QX := Lib.hid hbx_
        have QR := Lib.hid hbr
        have QW := Lib.hid hbw
        have hgq : g2 < gq := by omega
        clear q1k hbx_ hbr hbw hbh hbW HW HREC IH KK0 KK1 KX KL3
        simp only [List.drop_succ_cons, List.drop_zero]
        go_wp2_with (first
          | (refine wpList_puts (by rfl) 26 _ _ (by with_reducible rfl) gq 0 (by rfl) (bts U) (by rfl) 26 (bts hash0) (by exact QK.out) 32 hbU (by rw [h0l]; omega) hi_hash bts_all ?_; intro w7 hb_ hm_ hz_; rw [put_hash0 _ hUl] at hb_; have QU := Lib.hid hb_; have QX7 := Lib.hid (hm_.bk QX.out (by omega)); have QR7 := Lib.hid (hm_.bk QR.out (by omega)); have QW7 := Lib.hid (QW.out.trans (hm_.to_below (by have := QW.out.size; have := HGA.out; omega) (fun k_ o e => by rw [e]; omega))); clear hb_ hm_ hz_)
          | (refine wpList_val (by rfl) (run_ldh _ (by with_reducible rfl) gq 0 (by rfl) U hUl (by exact QU.out.all)) ?_)
          | (refine wpList_val (by rfl) (run_ldh _ (by with_reducible rfl) g2 0 (by rfl) x hxl (by exact QX7.out.all)) ?_))
        with_reducible refine (HTWO.out _).mono ?_
        rintro en w8 ⟨rfl, hb8⟩
        have QR8 := Lib.hid (QR7.out.below hb8 QR7.out.lt)
        have QW8 := Lib.hid (QW7.out.trans (hb8.mono (by have := QW7.out.size; have := HGA.out; omega)))
        clear hb8 HTWO QX7 QU
        go_wp2_with (refine wpList_puts (by rfl) 26 _ _ (by with_reducible rfl) (ga + 1) 0 (by rfl) (bts J) (by rfl) 26 (bts hash0) (by exact QR8.out) 32 hbJ (by rw [h0l]; omega) hi_hash bts_all ?_; intro w9 hb_ hm_ hz_; rw [put_hash0 _ hJl] at hb_; have HR9 := Lib.hid hb_; have HM9 := Lib.hid hm_; clear hb_ hm_ hz_)
        refine bodyPost_ret (results_cell2 rfl _ _ (ga + 1) 26 (bts J).toArray (0, 0) _ (.bool bo) (by rfl) (by rfl) HR9.out Tryd.underlying26 rfl (by rw [hi_hash]; simp [hbJ])) rfl ?_
        exact ⟨by rw [HUP.out], by rw [HGA.out]; exact QW8.out.trans (HM9.out.to_below (by have := QW8.out.size; have := HGA.out; omega) (fun k_ _ e => by omega))⟩
end Go.Proofs.YtdeikpifflkabaaDoor

namespace Go.Proofs.YtdeikpifflkabaaDoor
open Go.RowKit Go.Shelf
set_option linter.unusedVariables false
set_option linter.unusedSimpArgs false

set_option maxRecDepth 100000 in
set_option maxHeartbeats 4000000 in
theorem rleads_out (r : List UInt8) (idx : Int) (e : Ent) (A : Option Addr) (n c N : Nat) (w : World) (h : ¬ (0 ≤ idx ∧ idx < (N : Int))) :
    Calls Tryd.prog 35 #[.agg (bts r).toArray, .agg (ptCells idx e A n c), .int .i64 (N : Int)] w fun en w' => en = .returned (.bool false) ∧ Below w.heap.size w w' := by
  unfold ptCells
  go_enter Tryd.func35, Tryd.ntmps35
  go_upto_region 1 with fail
  have K4 := Bk.new (w.alloc (.cells (bts r).toArray 26)) 41 #[.int .i64 idx, .string e.1, .string e.2, .slice A n c]
  have L2 : Below w.heap.size w ((w.alloc (.cells (bts r).toArray 26)).alloc (.cells #[.int .i64 idx, .string e.1, .string e.2, .slice A n c] 41)) := (by (first | assumption | (repeat (first | exact Below.refl _ _ | assumption | apply Below.drew | apply below_drewN | (refine Below.setCell ?_ (by (try simp) <;> omega) _) | (refine Below.alloc ?_ (by (try simp) <;> omega) _)))))
  rw [World.size_alloc] at K4
  obtain ⟨w2, hw2⟩ : ∃ W, (w.alloc (.cells (bts r).toArray 26)).alloc (.cells #[.int .i64 idx, .string e.1, .string e.2, .slice A n c] 41) = W := ⟨_, rfl⟩
  rw [hw2] at K4 L2 ⊢
  have x0 : w2.cell? ⟨w.heap.size + 1, 0, none⟩ = some (.int .i64 idx) := K4.cell 0
  clear hw2 K4
  by_cases h0 : idx < 0
  · have e1 : decide (idx < 0) = true := decide_eq_true h0
    go_wp2_with fail
    go_ret
    exact ⟨rfl, L2⟩
  · have e1 : decide (idx < 0) = false := decide_eq_false h0
    have e2 : decide ((N : Int) ≤ idx) = true := decide_eq_true (by omega)
    go_wp2_with fail
    go_ret
    exact ⟨rfl, L2⟩

attribute [local irreducible] digF
set_option maxRecDepth 100000 in
set_option maxHeartbeats 8000000 in
theorem rleads_in (r : List UInt8) (hr32 : r.length = 32) (i : Nat) (e : Ent) (he1 : e.1.size ≤ 300) (he2 : e.2.size ≤ 300) (A : Option Addr) (path : List (List UInt8)) (c N : Nat) (w : World) (hiN : i < N) (hN : N ≤ 4096) (hp : path.length ≤ 1000) (hpc : path.length ≤ c) (hcm : c ≤ maxLen) (hp32 : h32 path) (hA : Sl w w.heap.size 32 A path.length (hCells path)) :
    Calls Tryd.prog 35 #[.agg (bts r).toArray, .agg (ptCells (i : Int) e A path.length c), .int .i64 (N : Int)] w fun en w' => en = .returned (.bool (leadsF r (i : Int) e path N)) ∧ Below w.heap.size w w' := by
  have hzh := zero_hash
  have h0l : (bts hash0).length = 32 := by rw [bts_len, hash0_len]
  obtain ⟨k, v⟩ := e
  simp only at he1 he2
  unfold ptCells
  simp only
  obtain ⟨H0, hH0⟩ : ∃ H, leafF (k, v) = H := ⟨_, rfl⟩
  have hH0l : H0.length = 32 := by rw [← hH0, leafF_len]
  obtain ⟨U, hU⟩ : ∃ U, (upR H0 i N path.reverse).1 = U := ⟨_, rfl⟩
  obtain ⟨bo, hbo⟩ : ∃ b, (upR H0 i N path.reverse).2 = b := ⟨_, rfl⟩
  have hUl : U.length = 32 := by rw [← hU]; exact upR_len hH0l _ _ _
  have hbU : (bts U).length = 32 := by rw [bts_len, hUl]
  have hbr : (bts r).length = 32 := by rw [bts_len, hr32]
  have HRES : Hid (leadsF r (i : Int) (k, v) path N = (bo && (U == r))) := Lib.hid (by rw [leadsF_in hiN, hH0, hU, hbo])
  have HLEAF := Lib.hid (fun W => rleaf_any (k, v) (by simp only; omega) (by simp only; omega) W)
  rw [hH0] at HLEAF
  obtain ⟨g3, hg3⟩ : ∃ g, w.heap.size = g := ⟨_, rfl⟩
  have HG3 := Lib.hid hg3
  have HUP := Lib.hid (show ∀ W, Below g3 w W → Calls Tryd.prog 56 #[.agg (bts H0).toArray, .int .i64 (i : Int), .int .i64 (N : Int), .slice A path.length c] W fun e w' => e = .returned (.tuple #[.agg (bts U).toArray, .bool bo]) ∧ Below W.heap.size W w' from fun W hW => by
    have hW' : Below w.heap.size w W := hW.mono (Nat.le_of_eq hg3)
    have := up_any path.length path H0 i N A c W rfl hp hpc hcm hp32 hH0l (by omega) hN (by omega) ((hA.below hW').more hW'.size)
    rwa [hU, hbo] at this)
  clear hA hp32 hcm hU hbo hH0
  go_enter Tryd.func35, Tryd.ntmps35
  go_upto_region 1 with fail
  have K3 := (Bk.new w 26 (bts r).toArray).alloc (.cells #[.int .i64 (i : Int), .string k, .string v, .slice A path.length c] 41)
  have K4 := Bk.new (w.alloc (.cells (bts r).toArray 26)) 41 #[.int .i64 (i : Int), .string k, .string v, .slice A path.length c]
  have L2 : Below w.heap.size w ((w.alloc (.cells (bts r).toArray 26)).alloc (.cells #[.int .i64 (i : Int), .string k, .string v, .slice A path.length c] 41)) := (by (first | assumption | (repeat (first | exact Below.refl _ _ | assumption | apply Below.drew | apply below_drewN | (refine Below.setCell ?_ (by (try simp) <;> omega) _) | (refine Below.alloc ?_ (by (try simp) <;> omega) _)))))
  rw [World.size_alloc] at K4
  obtain ⟨w2, hw2⟩ : ∃ W, (w.alloc (.cells (bts r).toArray 26)).alloc (.cells #[.int .i64 (i : Int), .string k, .string v, .slice A path.length c] 41) = W := ⟨_, rfl⟩
  have z2 : w2.heap.size = g3 + 2 := by rw [← hw2, World.size_alloc, World.size_alloc, hg3]
  rw [hw2] at K3 K4 L2 ⊢
  rw [hg3] at K3 K4 L2
  have x0 : w2.cell? ⟨g3 + 1, 0, none⟩ = some (.int .i64 (i : Int)) := K4.cell 0
  have x1 : w2.cell? ⟨g3 + 1, 1, none⟩ = some (.string k) := K4.cell 1
  have x2 : w2.cell? ⟨g3 + 1, 2, none⟩ = some (.string v) := K4.cell 2
  have e1 : decide ((i : Int) < 0) = false := decide_eq_false (by omega)
  have e2 : decide ((N : Int) ≤ (i : Int)) = false := decide_eq_false (by omega)
  have e2' : decide (N ≤ i) = false := decide_eq_false (by omega)
  have e3 : decide ((4096 : Int) < (k.size : Int)) = false := decide_eq_false (by omega)
  have e4 : decide ((4096 : Int) < (v.size : Int)) = false := decide_eq_false (by omega)
  have HK3 := Lib.hid K3
  have HK4 := Lib.hid K4
  have HL2 := Lib.hid L2
  have HZ2 := Lib.hid z2
  clear hw2 K3 K4 L2 hg3 z2
  go_upto_region 3 with fail
  have HW : Hid (∀ W, Below w2.drew.heap.size w2.drew W → Bk W g3 26 (bts r).toArray ∧ W.cell? ⟨g3 + 1, 0, none⟩ = some (.int .i64 (i : Int)) ∧ W.cell? ⟨g3 + 1, 1, none⟩ = some (.string k) ∧ W.cell? ⟨g3 + 1, 2, none⟩ = some (.string v) ∧ W.cell? ⟨g3 + 1, 3, none⟩ = some (.slice A path.length c) ∧ Below g3 w W ∧ g3 + 2 ≤ W.heap.size) := Lib.hid (fun W hb =>
    have hd : Below w2.heap.size w2 w2.drew := (Below.refl _ _).drew
    have h0 : Below w2.heap.size w2 W := hd.trans (hb.mono (Nat.le_refl _))
    have h1 : Below g3 w W := HL2.out.trans (h0.mono (by have := HZ2.out; omega))
    have k4 := HK4.out.below h0 HK4.out.lt
    ⟨HK3.out.below h0 HK3.out.lt, k4.cell 0, k4.cell 1, k4.cell 2, k4.cell 3, h1, by have := h0.size; have := HZ2.out; omega⟩)
  clear x0 x1 x2 e1 e2 e2' e3 e4
  refine wp_region_each_lazy 13 11 (lstV [fun x _ => x = .pointer (some ⟨g3 + 1, 1, none⟩), fun x _ => x = .agg #[.string k, .string v], fun x _ => x = .agg (bts H0).toArray, fun x _ => x = .pointer (some ⟨g3 + 1, 0, none⟩), fun x _ => x = .int .i64 (i : Int), fun x _ => x = .int .i64 (N : Int), fun x _ => x = .pointer (some ⟨g3 + 1, 3, none⟩), fun x _ => x = .slice A path.length c, fun x _ => x = .tuple #[.agg (bts U).toArray, .bool bo], fun x _ => x = .tuple #[.agg (bts U).toArray, .bool bo], fun x _ => x = .agg (bts U).toArray, fun x _ => x = .bool bo, NewH (g3 + 2)]) (by kernel_rfl) (by kernel_rfl) (lstV_on (by repeat' (first | exact forall_nil | refine forall_cons ?_ ?_ | exact stays_newh _ | exact stays_eq _))) ?turns ?hq ?lazy ?fin
  case hq => intro c_ a_ d_ v_ w_ h_; cases d_ <;> exact h_
  case lazy =>
    intro o hoz a W pre
    obtain rfl : _ = o := Option.some.inj hoz
    have q0 : a.eval (.tmp 32) = .tuple #[.agg (bts U).toArray, .bool bo] := pre.val 9 32 (by kernel_rfl) (by kernel_rfl)
    rw [Act.eval, Array.getD_eq_getD_getElem?] at q0
    exact ⟨.bool bo, want_none rfl, fun W_ => by go_simp, rfl⟩
  case turns =>
    refine ⟨fun a W pre => ?_, fun a W pre => ?_, fun a W pre => ?_, fun a W pre => ?_, fun a W pre => ?_, fun a W pre => ?_, fun a W pre => ?_, fun a W pre => ?_, fun a W pre => ?_, fun a W pre => ?_, fun a W pre => ?_, fun a W pre => ?_, fun a W pre => ?_, trivial⟩
    · (refine .inl ?_; have q0 : a.eval (.tmp 4) = .pointer (some ⟨g3 + 1, 0, none⟩) := pre.was 4 (by kernel_rfl) rfl; rw [Act.eval, Array.getD_eq_getD_getElem?] at q0; exact does_val (want_none rfl) (by go_simp) rfl)
    · obtain ⟨_, _, c1, c2, _⟩ := HW.out W pre.b
      (refine .inl ?_; have q0 : a.eval (.tmp 33) = .pointer (some ⟨g3 + 1, 1, none⟩) := pre.val 0 33 (by kernel_rfl) (by kernel_rfl); rw [Act.eval, Array.getD_eq_getD_getElem?] at q0; exact does_val (want_none rfl) (by go_simp) rfl)
    · (refine .inl ?_; have q0 : a.eval (.tmp 34) = .agg #[.string k, .string v] := pre.val 1 34 (by kernel_rfl) (by kernel_rfl); rw [Act.eval, Array.getD_eq_getD_getElem?] at q0; exact does_call (want_none rfl) (by go_simp) (HLEAF.out W) (fun _ => rfl))
    · (refine .inl ?_; have q0 : a.eval (.tmp 4) = .pointer (some ⟨g3 + 1, 0, none⟩) := pre.was 4 (by kernel_rfl) rfl; rw [Act.eval, Array.getD_eq_getD_getElem?] at q0; exact does_val (want_none rfl) (by go_simp) rfl)
    · obtain ⟨_, c0, _⟩ := HW.out W pre.b
      (refine .inl ?_; have q0 : a.eval (.tmp 36) = .pointer (some ⟨g3 + 1, 0, none⟩) := pre.val 3 36 (by kernel_rfl) (by kernel_rfl); rw [Act.eval, Array.getD_eq_getD_getElem?] at q0; exact does_val (want_none rfl) (by go_simp) rfl)
    · (refine .inl ?_; have q0 : a.eval (.tmp 2) = .int .i64 (N : Int) := pre.was 2 (by kernel_rfl) rfl; rw [Act.eval, Array.getD_eq_getD_getElem?] at q0; exact does_val (want_none rfl) (by go_simp) rfl)
    · (refine .inl ?_; have q0 : a.eval (.tmp 4) = .pointer (some ⟨g3 + 1, 0, none⟩) := pre.was 4 (by kernel_rfl) rfl; rw [Act.eval, Array.getD_eq_getD_getElem?] at q0; exact does_val (want_none rfl) (by go_simp) rfl)
    · obtain ⟨_, _, _, _, c3, _⟩ := HW.out W pre.b
      (refine .inl ?_; have q0 : a.eval (.tmp 39) = .pointer (some ⟨g3 + 1, 3, none⟩) := pre.val 6 39 (by kernel_rfl) (by kernel_rfl); rw [Act.eval, Array.getD_eq_getD_getElem?] at q0; exact does_val (want_none rfl) (by go_simp) rfl)
    · refine .inl ?_
      have q0 : a.eval (.tmp 35) = .agg (bts H0).toArray := pre.val 2 35 (by kernel_rfl) (by kernel_rfl)
      have q1 : a.eval (.tmp 37) = .int .i64 (i : Int) := pre.val 4 37 (by kernel_rfl) (by kernel_rfl)
      have q2 : a.eval (.tmp 38) = .int .i64 (N : Int) := pre.val 5 38 (by kernel_rfl) (by kernel_rfl)
      have q3 : a.eval (.tmp 40) = .slice A path.length c := pre.val 7 40 (by kernel_rfl) (by kernel_rfl)
      rw [Act.eval, Array.getD_eq_getD_getElem?] at q0 q1 q2 q3
      exact does_call (want_none rfl) (by go_simp) (HUP.out W (HW.out W pre.b).2.2.2.2.2.1) (fun _ => rfl)
    · (refine .inl ?_; have q0 : a.eval (.tmp 41) = .tuple #[.agg (bts U).toArray, .bool bo] := pre.val 8 41 (by kernel_rfl) (by kernel_rfl); rw [Act.eval, Array.getD_eq_getD_getElem?] at q0; exact does_val (want_none rfl) (by go_simp) rfl)
    · (refine .inl ?_; have q0 : a.eval (.tmp 32) = .tuple #[.agg (bts U).toArray, .bool bo] := pre.val 9 32 (by kernel_rfl) (by kernel_rfl); rw [Act.eval, Array.getD_eq_getD_getElem?] at q0; exact does_val (want_none rfl) (by go_simp) rfl)
    · (refine .inl ?_; have q0 : a.eval (.tmp 32) = .tuple #[.agg (bts U).toArray, .bool bo] := pre.val 9 32 (by kernel_rfl) (by kernel_rfl); rw [Act.eval, Array.getD_eq_getD_getElem?] at q0; exact does_val (want_none rfl) (by go_simp) rfl)
    · refine .inl ?_
      have hb_ : Below W.heap.size W (W.alloc (.cells (bts hash0).toArray 26)) := (by (first | assumption | (repeat (first | exact Below.refl _ _ | assumption | apply Below.drew | apply below_drewN | (refine Below.setCell ?_ (by (try simp) <;> omega) _) | (refine Below.alloc ?_ (by (try simp) <;> omega) _)))))
      exact does_new (want_none rfl) (by go_simp) hb_ ⟨W.heap.size, rfl, (HW.out W pre.b).2.2.2.2.2.2, Bk.new W _ _⟩
  case fin =>
    intro a W hbW hsz2 hd hv ho
    obtain ⟨T, D⟩ := a
    obtain rfl : D = [] := hd
    have hs8 : T.size = 50 := by rw [show T.size = _ from hsz2]; rfl
    obtain ⟨hbr3, _, _, _, _, hbw, hbs⟩ := HW.out W hbW
    obtain ⟨gq, q1, q1n, q1k⟩ : NewH (g3 + 2) (T.getD 7 undef) W := hv 12 7 (by decide) (by kernel_rfl)
    have q2 : T.getD 42 undef = .agg (bts U).toArray := hv 10 42 (by decide) (by kernel_rfl)
    have q3 : T.getD 43 undef = .bool bo := hv 11 43 (by decide) (by kernel_rfl)
    have q4 : T.getD 3 undef = .pointer (some ⟨g3, 0, none⟩) := ho 3 (no_dst (by kernel_rfl))
    obtain ⟨f, hf⟩ : ∃ f : Nat → Value, ∀ i, T.getD i undef = f i := ⟨_, fun _ => rfl⟩
    have hT := lit_of hs8 f hf
    rw [hf] at q1 q2 q3 q4
    simp only [List.range, List.range.loop, List.map_cons, List.map_nil, q1, q2, q3, q4] at hT
    clear hf q1 q2 q3 q4 hs8 hsz2 hv ho
    subst hT
    have QK := Lib.hid q1k
    have QR := Lib.hid hbr3
    have QW := Lib.hid hbw
    have hgq : g3 + 2 ≤ gq := q1n
    clear q1k hbr3 hbw hbW HW HUP HLEAF HK3 HK4 HL2 HZ2
    simp only [List.drop_succ_cons, List.drop_zero]
    obtain ⟨res, hres⟩ : ∃ b, (U == r) = b := ⟨_, rfl⟩
    have hEQ := Lib.hid fun (o : Oper) (a : Act) (W : World) (x y : Operand) (ty : TypeId) (ho : o.op = .binOp .eql 26 x y ty) (hx : a.eval x = .agg (bts U).toArray) (hy : a.eval y = .agg (bts r).toArray) => run_eqh (w := W) x y ty ho U r hx hy hUl hr32
    rw [hres] at hEQ HRES
    clear hres
    cases bo with
    | false =>
      go_wp2_with (refine wpList_puts (by rfl) 26 _ _ (by with_reducible rfl) gq 0 (by rfl) (bts U) (by rfl) 26 (bts hash0) (by exact QK.out) 32 hbU (by rw [h0l]; omega) hi_hash bts_all ?_; intro w7 hb_ hm_ hz_; have QW7 := Lib.hid (QW.out.trans (hm_.to_below (by have := QW.out.size; have := HG3.out; omega) (fun k_ o e => by rw [e]; omega))); clear hb_ hm_ hz_)
      go_ret
      exact ⟨by rw [HRES.out]; rfl, by rw [HG3.out]; exact QW7.out⟩
    | true =>
      go_upto_region 4 with (refine wpList_puts (by rfl) 26 _ _ (by with_reducible rfl) gq 0 (by rfl) (bts U) (by rfl) 26 (bts hash0) (by exact QK.out) 32 hbU (by rw [h0l]; omega) hi_hash bts_all ?_; intro w7 hb_ hm_ hz_; rw [put_hash0 _ hUl] at hb_; have QU := Lib.hid hb_; have QR7 := Lib.hid (hm_.bk QR.out (by omega)); have QW7 := Lib.hid (QW.out.trans (hm_.to_below (by have := QW.out.size; have := HG3.out; omega) (fun k_ o e => by rw [e]; omega))); clear hb_ hm_ hz_)
      go_wp2_with (first
        | (refine wpList_val (by rfl) (run_ldh _ (by with_reducible rfl) gq 0 (by rfl) U hUl (by exact QU.out.all)) ?_)
        | (refine wpList_val (by rfl) (run_ldh _ (by with_reducible rfl) g3 0 (by rfl) r hr32 (by exact QR7.out.all)) ?_)
        | (refine wpList_val (by rfl) (hEQ.out _ _ _ _ _ _ (by with_reducible rfl) (by rfl) (by rfl)) ?_))
      go_ret
      exact ⟨by rw [HRES.out]; rfl, by rw [HG3.out]; exact QW7.out⟩
end Go.Proofs.YtdeikpifflkabaaDoor

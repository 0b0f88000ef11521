/- What this text proves: the contracts of the reference's leafText and twoText. The conditions are the sizes of what is hashed. all texts that are hashed for a tree (the contract of the reference's Texts). The conditions: no more entries, and no longer texts, than are asked about; how they lie in memory. -/
import Derived.Test.YtdeikpifflkabaaDoorMerRefRoot
import Derived.Test.YtdeikpifflkabaaDoorConv
namespace Go.Proofs.YtdeikpifflkabaaDoor
open Go.RowKit Go.Shelf
set_option linter.unusedVariables false
set_option linter.unusedSimpArgs false

theorem own_low {w : World} {B B' n sz : Nat} {e : TypeId} {v : Value} {xs : List Value} (h : w.ownsRow B e sz v n xs) (hb : B' ≤ B) : w.ownsRow B' e sz v n xs := by
  refine ⟨h.1, ?_⟩
  rcases h.2 with h | ⟨g, cap, cur, h1, h2, h3⟩
  · exact .inl h
  · exact .inr ⟨g, cap, cur, h1, Nat.le_trans hb h2, h3⟩
def OwnAt (N : Nat) (bs : List UInt8) (v : Value) (W : World) : Prop := Own8 W N v bs
theorem stays_own8 (N : Nat) (bs : List UInt8) : Remains (OwnAt N bs) := fun _ _ _ h hb => own_below (show World.ownsRow _ _ _ _ _ _ _ from h) hb
/-- A slice of one cell, without spare room. -/
def OneAt (N : Nat) (x : Value) (v : Value) (W : World) : Prop := ∃ g, v = .slice (some ⟨g, 0, none⟩) 1 1 ∧ N ≤ g ∧ Bk W g 5 #[x]
theorem stays_one (N : Nat) (x : Value) : Remains (OneAt N x) := fun _ _ _ ⟨g, h1, h2, h3⟩ hb => ⟨g, h1, h2, h3.below hb h3.lt⟩
theorem OneAt.sl {N : Nat} {x v : Value} {W : World} (h : OneAt N x v W) : ∃ A, v = .slice A 1 1 ∧ Sl W W.heap.size 1 A 1 [x] := by
  obtain ⟨g, rfl, _, h3⟩ := h
  exact ⟨_, rfl, rfl, fun _ => ⟨g, 0, rfl, h3.lt, fun j u hu => by rw [Nat.zero_add, h3.cell, List.getElem?_toArray]; exact hu⟩⟩
section
variable {P : Program} {ops : Array Oper} {V : Nat → Value → World → Prop} {i : Nat} {o : Oper} {a : Act} {W : World}
/-- An append onto a slice without spare room, in a drawn region. -/
theorem does_append_clip (hw : Region.wanted o (yielded ops a.tmps) = true) (s x : Operand) (t : TypeId)
    (ho : o.op = .call { callee := .builtin .append, args := #[s, x], argTypes := #[t, t] })
    (e : TypeId) (i0 : TypeInfo) (z : Value) (bytes : Nat) (ht : P.underlying t = some (.slice e)) (hi : P.info? e = some i0) (hz : i0.zero = some z)
    (hsize : i0.size = 1) (hby : i0.bytes = bytes) (hzs : z.cells.size = 1) (A : Option Addr) (n : Nat) (olds : List Value) (hs : a.eval s = .slice A n n) (hA : Sl W W.heap.size 1 A n olds) (hcm : n ≤ maxLen)
    (A' : Option Addr) (m c : Nat) (news : List Value) (hx : a.eval x = .slice A' m c) (hA' : Sl W W.heap.size 1 A' m news) (h1 : ∀ u ∈ news, u.oneCell' = true) (h63 : n + m ≤ maxLen) (hbytes : (n + m) * bytes ≤ 140737488355328) (hm : 0 < m)
    (hv : ∀ v W', W'.ownsRow W.heap.size e 1 v (n + m) (olds ++ news) → Below W.heap.size W W' → V i v W') : EachDoes P ops V i o a W :=
  ⟨hw, fun Q' => by
    obtain ⟨v', w', hrun, r1, ⟨A2, c2, rfl, q1, q2⟩, r2, r3⟩ := run_append_clip (P := P) W t o.type e i0 z bytes ht hi hz hsize hby hzs A n n olds hA rfl hcm A' m c news hA' h1 h63 hbytes
    have hb : Below W.heap.size W w' := (Below.refl _ _).grown r1 (Nat.le_refl _) (fun k hk => by cases hk)
    unfold Oper.wp execOp
    simp only [ho, resolve, invoke, builtin, Sem.run_bind, Sem.run_pure, Result.andThen_ok, List.map_toArray, List.map_cons, List.map_nil, hs, hx, hrun]
    exact ⟨_, rfl, hv _ _ (r3 hm) hb, hb⟩⟩
end

attribute [local irreducible] digF
set_option maxRecDepth 100000 in
set_option maxHeartbeats 4000000 in
theorem leafText_any (e : Ent) (he1 : e.1.size ≤ 4096) (he2 : e.2.size ≤ 4096) (w : World) :
    Calls Tryd.prog 29 #[.agg #[.string e.1, .string e.2]] w fun en w' => ∃ v, en = .returned v ∧ Own8 w' w.heap.size v (leafT e) ∧ Below w.heap.size w w' := by
  obtain ⟨k, s⟩ := e
  simp only at he1 he2
  obtain ⟨i0, hi, hz0, hz1, hz2⟩ := info_parts u8_info
  obtain ⟨T, hT⟩ : ∃ T, lenB k ++ k.data.toList = T := ⟨_, rfl⟩
  have hTl : T.length = k.size + 2 := by rw [← hT, List.length_append, lenB_len, Array.length_toList]; exact Nat.add_comm _ _
  have hsl : s.data.toList.length = s.size := by rw [Array.length_toList]; rfl
  have HLT : Hid (leafT (k, s) = (0 :: T) ++ s.data.toList) := Lib.hid (by rw [← hT]; rfl)
  have HT := Lib.hid hT
  obtain ⟨N, hN⟩ : ∃ n, w.heap.size = n := ⟨_, rfl⟩
  have HN := Lib.hid hN
  clear hT
  go_enter Tryd.func29, Tryd.ntmps29
  go_upto_region 1 with fail
  have K0 := (Bk.new w 31 #[.string k, .string s])
  have L0 : Below w.heap.size w (w.alloc (.cells #[.string k, .string s] 31)) := (by (first | assumption | (repeat (first | exact Below.refl _ _ | assumption | apply Below.drew | apply below_drewN | (refine Below.setCell ?_ (by (try simp) <;> omega) _) | (refine Below.alloc ?_ (by (try simp) <;> omega) _)))))
  obtain ⟨w1, hw1⟩ : ∃ W, w.alloc (.cells #[.string k, .string s] 31) = W := ⟨_, rfl⟩
  rw [hw1] at K0 L0 ⊢
  rw [hN] at K0 L0
  have HW : Hid (∀ W, Below w1.drew.heap.size w1.drew W → W.cell? ⟨N, 0, none⟩ = some (.string k) ∧ W.cell? ⟨N, 1, none⟩ = some (.string s) ∧ Below N w W ∧ N ≤ W.heap.size) := Lib.hid (fun W h =>
    have hd : Below w1.heap.size w1 w1.drew := (Below.refl _ _).drew
    have h1 : Below N w W := (L0.trans (hd.mono (by have := L0.size; omega))).trans (h.mono (by have := L0.size; have := hd.size; omega))
    ⟨(K0.drew.below h K0.drew.lt).cell 0, (K0.drew.below h K0.drew.lt).cell 1, h1, by have := h1.size; omega⟩)
  clear hw1 K0 L0 hN
  refine wp_region_each_tail 7 (lstV [OneAt N (.int .u8 0), fun x _ => x = .pointer (some ⟨N, 0, none⟩), fun x _ => x = .string k, PartAt T, OwnAt N (0 :: T), fun x _ => x = .pointer (some ⟨N, 1, none⟩), fun x _ => x = .string s]) (by kernel_rfl) (by kernel_rfl) (lstV_on (by repeat' (first | exact forall_nil | refine forall_cons ?_ ?_ | exact stays_part _ | exact stays_one _ _ | exact stays_own8 _ _ | exact stays_eq _))) ?turns ?fin
  case turns =>
    refine ⟨fun a W pre => ?_, fun a W pre => ?_, fun a W pre => ?_, fun a W pre => ?_, fun a W pre => ?_, fun a W pre => ?_, fun a W pre => ?_, trivial⟩
    · refine .inl ?_
      have hb_ : Below W.heap.size W (W.alloc (.cells #[.int .u8 0] 5)) := (by (first | assumption | (repeat (first | exact Below.refl _ _ | assumption | apply Below.drew | apply below_drewN | (refine Below.setCell ?_ (by (try simp) <;> omega) _) | (refine Below.alloc ?_ (by (try simp) <;> omega) _)))))
      exact does_new (want_none rfl) (by go_simp) hb_ ⟨W.heap.size, rfl, (HW.out W pre.b).2.2.2, Bk.new W _ _⟩
    · (refine .inl ?_; have q0 : a.eval (.tmp 1) = .pointer (some ⟨N, 0, none⟩) := pre.was 1 (by kernel_rfl) rfl; rw [Act.eval, Array.getD_eq_getD_getElem?] at q0; exact does_val (want_none rfl) (by go_simp) rfl)
    · have c0 := (HW.out W pre.b).1
      (refine .inl ?_; have q0 : a.eval (.tmp 4) = .pointer (some ⟨N, 0, none⟩) := pre.val 1 4 (by kernel_rfl) (by kernel_rfl); rw [Act.eval, Array.getD_eq_getD_getElem?] at q0; exact does_val (want_none rfl) (by go_simp) rfl)
    · refine .inl ?_
      have q0 : a.eval (.tmp 5) = .string k := pre.val 2 5 (by kernel_rfl) (by kernel_rfl)
      rw [Act.eval, Array.getD_eq_getD_getElem?] at q0
      refine does_callx (want_none rfl) (by go_simp) ((mtext_any k he1 W).mono fun e W' h => ?_)
      obtain ⟨x, rfl, h1, h2⟩ := h
      rw [HT.out] at h1
      exact ⟨x, rfl, own8_part h1, h2⟩
    · refine .inl ?_
      obtain ⟨A1, e1, s1⟩ := OneAt.sl (show OneAt N _ (a.eval (.tmp 3)) W from pre.val 0 3 (by kernel_rfl) (by kernel_rfl))
      obtain ⟨A2, c2, e2, g2⟩ : PartAt T (a.eval (.tmp 6)) W := pre.val 3 6 (by kernel_rfl) (by kernel_rfl)
      refine does_append_clip (want_none rfl) (.tmp 3) (.tmp 6) 59 rfl 5 i0 _ 1 Tryd.underlying59 hi hz0 hz1 hz2 rfl A1 1 _ e1 s1 (by unfold maxLen; omega) A2 T.length c2 (bts T) e2 g2.2.2 bts_one (by unfold maxLen; omega) (by omega) (by omega) (fun v W' ho hb => ?_)
      have : W'.ownsRow N 5 1 v (1 + T.length) ([.int .u8 0] ++ bts T) := own_low ho (HW.out W pre.b).2.2.2
      show World.ownsRow _ _ _ _ _ _ _
      rw [List.length_cons, Nat.add_comm T.length 1]
      exact this
    · (refine .inl ?_; have q0 : a.eval (.tmp 1) = .pointer (some ⟨N, 0, none⟩) := pre.was 1 (by kernel_rfl) rfl; rw [Act.eval, Array.getD_eq_getD_getElem?] at q0; exact does_val (want_none rfl) (by go_simp) rfl)
    · have c0 := (HW.out W pre.b).2.1
      (refine .inl ?_; have q0 : a.eval (.tmp 8) = .pointer (some ⟨N, 1, none⟩) := pre.val 5 8 (by kernel_rfl) (by kernel_rfl); rw [Act.eval, Array.getD_eq_getD_getElem?] at q0; exact does_val (want_none rfl) (by go_simp) rfl)
  case fin =>
    intro a W hbW hsz2 hd hv ho
    have hs8 : a.tmps.size = 11 := by rw [hsz2]; rfl
    have q7 : OwnAt N (0 :: T) (a.eval (.tmp 7)) W := hv 4 7 (by decide) (by kernel_rfl)
    have q9 : a.eval (.tmp 9) = .string s := hv 6 9 (by decide) (by kernel_rfl)
    obtain ⟨_, _, hbw, hbs⟩ := HW.out W hbW
    have HBW := Lib.hid hbw
    obtain ⟨v7, hv7⟩ : ∃ v, a.eval (.tmp 7) = v := ⟨_, rfl⟩
    rw [hv7] at q7
    have Q7 := Lib.hid q7
    simp only [List.drop_succ_cons, List.drop_zero]
    refine Lib.wpList_append_own_string (w := W) rfl (.tmp 7) (.tmp 9) 59 9 rfl N 5 i0 Tryd.underlying59 Tryd.underlying9 hi hz0 hz1 hz2 v7 (0 :: T).length (bts (0 :: T)) hv7 q7 s q9 (by unfold maxLen; simp only [List.length_cons]; omega) (by simp only [List.length_cons]; omega) hbs ?_
    intro v2 w2 ho_ hg_ hz_
    have HO := Lib.hid ho_
    have HL : Hid (Below N w w2) := Lib.hid (hbw.grown hg_ hbs (fun k hk => (own_cells q7 hk).1))
    clear ho_ hg_ hz_ q7 q9 hbw hbW hv ho hv7
    go_wp2_with fail
    refine bodyPost_ret (results_tmp rfl _ _ _) (by first | rfl | exact hd) ?_
    refine ⟨v2, congrArg Ending.returned (by simp [hs8]), ?_, by rw [HN.out]; exact HL.out⟩
    have h2 := HO.out
    rw [mstrCells_bts, ← bts_app] at h2
    unfold Own8
    rw [HN.out, HLT.out, List.length_append, hsl]
    exact h2

set_option maxRecDepth 100000 in
set_option maxHeartbeats 4000000 in
theorem twoText_any (x y : List UInt8) (hx : x.length = 32) (hy : y.length = 32) (w : World) :
    Calls Tryd.prog 31 #[.agg (bts x).toArray, .agg (bts y).toArray] w fun en w' => ∃ v, en = .returned v ∧ Own8 w' w.heap.size v (pairT x y) ∧ Below w.heap.size w w' := by
  have hxl : (bts x).length = 32 := by rw [bts_len, hx]
  have hyl : (bts y).length = 32 := by rw [bts_len, hy]
  obtain ⟨i0, hi, hz0, hz1, hz2⟩ := info_parts u8_info
  have HLT : Hid (pairT x y = (1 :: x) ++ y) := Lib.hid rfl
  obtain ⟨N, hN⟩ : ∃ n, w.heap.size = n := ⟨_, rfl⟩
  have HN := Lib.hid hN
  go_enter Tryd.func31, Tryd.ntmps31
  go_upto_region 1 with fail
  have K0 := (Bk.new w 26 (bts x).toArray)
  have B1 : Below w.heap.size w (w.alloc (.cells (bts x).toArray 26)) := (by (first | assumption | (repeat (first | exact Below.refl _ _ | assumption | apply Below.drew | apply below_drewN | (refine Below.setCell ?_ (by (try simp) <;> omega) _) | (refine Below.alloc ?_ (by (try simp) <;> omega) _)))))
  obtain ⟨w1, hw1⟩ : ∃ W, w.alloc (.cells (bts x).toArray 26) = W := ⟨_, rfl⟩
  have z1 : w1.heap.size = N + 1 := by rw [← hw1, ← hN]; simp
  rw [hw1] at K0 B1 ⊢
  rw [hN] at K0 B1
  have K1 := (Bk.new w1 26 (bts y).toArray)
  have B2 : Below w1.heap.size w1 (w1.alloc (.cells (bts y).toArray 26)) := (by (first | assumption | (repeat (first | exact Below.refl _ _ | assumption | apply Below.drew | apply below_drewN | (refine Below.setCell ?_ (by (try simp) <;> omega) _) | (refine Below.alloc ?_ (by (try simp) <;> omega) _)))))
  obtain ⟨w2, hw2⟩ : ∃ W, w1.alloc (.cells (bts y).toArray 26) = W := ⟨_, rfl⟩
  rw [hw2] at K1 B2 ⊢
  rw [z1] at K1
  have B02 : Below N w w2 := B1.trans (B2.mono (by omega))
  have A0 := K0.below B2 (by omega)
  have HW : Hid (∀ W, Below w2.drew.heap.size w2.drew W → Bk W N 26 (bts x).toArray ∧ Bk W (N + 1) 26 (bts y).toArray ∧ Below N w W ∧ N ≤ W.heap.size) := Lib.hid (fun W h =>
    have hd : Below w2.heap.size w2 w2.drew := (Below.refl _ _).drew
    have h1 : Below N w W := (B02.trans (hd.mono (by have := B02.size; omega))).trans (h.mono (by have := B02.size; have := hd.size; omega))
    ⟨A0.drew.below h A0.drew.lt, K1.drew.below h K1.drew.lt, h1, by have := h1.size; omega⟩)
  clear hw1 hw2 K0 K1 A0 B1 B2 B02 z1 hN
  refine wp_region_each_tail 6 (lstV [OneAt N (.int .u8 1), fun v _ => v = .agg (bts x).toArray, PartAt x, OwnAt N (1 :: x), fun v _ => v = .agg (bts y).toArray, PartAt y]) (by kernel_rfl) (by kernel_rfl) (lstV_on (by repeat' (first | exact forall_nil | refine forall_cons ?_ ?_ | exact stays_part _ | exact stays_one _ _ | exact stays_own8 _ _ | exact stays_eq _))) ?turns ?fin
  case turns =>
    refine ⟨fun a W pre => ?_, fun a W pre => ?_, fun a W pre => ?_, fun a W pre => ?_, fun a W pre => ?_, fun a W pre => ?_, trivial⟩
    · refine .inl ?_
      have hb_ : Below W.heap.size W (W.alloc (.cells #[.int .u8 1] 5)) := (by (first | assumption | (repeat (first | exact Below.refl _ _ | assumption | apply Below.drew | apply below_drewN | (refine Below.setCell ?_ (by (try simp) <;> omega) _) | (refine Below.alloc ?_ (by (try simp) <;> omega) _)))))
      exact does_new (want_none rfl) (by go_simp) hb_ ⟨W.heap.size, rfl, (HW.out W pre.b).2.2.2, Bk.new W _ _⟩
    · refine .inl ?_
      have q0 : a.eval (.tmp 2) = .pointer (some ⟨N, 0, none⟩) := pre.was 2 (by kernel_rfl) rfl
      exact does_val (want_none rfl) (run_load_seg 26 _ rfl N 0 q0 _ (HW.out W pre.b).1.all 32 hxl _ Tryd.underlying26 rfl hi_hash) rfl
    · refine .inl ?_
      have q0 : a.eval (.tmp 6) = .agg (bts x).toArray := pre.val 1 6 (by kernel_rfl) (by kernel_rfl)
      rw [Act.eval, Array.getD_eq_getD_getElem?] at q0
      refine does_callx (want_none rfl) (by go_simp) ((mhash_any x hx W).mono fun e W' h => ?_)
      obtain ⟨v, rfl, h1, h2⟩ := h
      exact ⟨v, rfl, own8_part h1, h2⟩
    · refine .inl ?_
      obtain ⟨A1, e1, s1⟩ := OneAt.sl (show OneAt N _ (a.eval (.tmp 5)) W from pre.val 0 5 (by kernel_rfl) (by kernel_rfl))
      obtain ⟨A2, c2, e2, g2⟩ : PartAt x (a.eval (.tmp 7)) W := pre.val 2 7 (by kernel_rfl) (by kernel_rfl)
      refine does_append_clip (want_none rfl) (.tmp 5) (.tmp 7) 59 rfl 5 i0 _ 1 Tryd.underlying59 hi hz0 hz1 hz2 rfl A1 1 _ e1 s1 (by unfold maxLen; omega) A2 x.length c2 (bts x) e2 g2.2.2 bts_one (by unfold maxLen; omega) (by omega) (by omega) (fun v W' ho hb => ?_)
      have : W'.ownsRow N 5 1 v (1 + x.length) ([.int .u8 1] ++ bts x) := own_low ho (HW.out W pre.b).2.2.2
      show World.ownsRow _ _ _ _ _ _ _
      rw [List.length_cons, Nat.add_comm x.length 1]
      exact this
    · refine .inl ?_
      have q0 : a.eval (.tmp 3) = .pointer (some ⟨N + 1, 0, none⟩) := pre.was 3 (by kernel_rfl) rfl
      exact does_val (want_none rfl) (run_load_seg 26 _ rfl (N + 1) 0 q0 _ (HW.out W pre.b).2.1.all 32 hyl _ Tryd.underlying26 rfl hi_hash) rfl
    · refine .inl ?_
      have q0 : a.eval (.tmp 9) = .agg (bts y).toArray := pre.val 4 9 (by kernel_rfl) (by kernel_rfl)
      rw [Act.eval, Array.getD_eq_getD_getElem?] at q0
      refine does_callx (want_none rfl) (by go_simp) ((mhash_any y hy W).mono fun e W' h => ?_)
      obtain ⟨v, rfl, h1, h2⟩ := h
      exact ⟨v, rfl, own8_part h1, h2⟩
  case fin =>
    intro a W hbW hsz2 hd hv ho
    have hs8 : a.tmps.size = 12 := by rw [hsz2]; rfl
    have q7 : OwnAt N (1 :: x) (a.eval (.tmp 8)) W := hv 3 8 (by decide) (by kernel_rfl)
    obtain ⟨A2, c2, q9, g2⟩ : PartAt y (a.eval (.tmp 10)) W := hv 5 10 (by decide) (by kernel_rfl)
    obtain ⟨_, _, hbw, hbs⟩ := HW.out W hbW
    obtain ⟨v7, hv7⟩ : ∃ v, a.eval (.tmp 8) = v := ⟨_, rfl⟩
    rw [hv7] at q7
    simp only [List.drop_succ_cons, List.drop_zero]
    refine wpList_append_sl W rfl (.tmp 8) (.tmp 10) 59 rfl N 5 i0 _ 1 1 Tryd.underlying59 hi hz0 hz1 hz2 rfl (by omega) v7 (1 :: x).length (bts (1 :: x)) hv7 q7 A2 y.length c2 (bts y) q9 g2.2.2 bts_one (by unfold maxLen; simp only [List.length_cons]; omega) (by simp only [List.length_cons]; omega) hbs ?_
    intro v2 w2 ho_ hg_ hz_
    have HO := Lib.hid ho_
    have HL : Hid (Below N w w2) := Lib.hid (hbw.grown hg_ hbs (fun k hk => (own_cells q7 hk).1))
    clear ho_ hg_ hz_ q7 q9 g2 hbw hbW hv ho hv7
    go_wp2_with fail
    refine bodyPost_ret (results_tmp rfl _ _ _) (by first | rfl | exact hd) ?_
    refine ⟨v2, congrArg Ending.returned (by simp [hs8]), ?_, by rw [HN.out]; exact HL.out⟩
    have h2 := HO.out
    rw [← bts_app] at h2
    unfold Own8
    rw [HN.out, HLT.out, List.length_append]
    exact h2
end Go.Proofs.YtdeikpifflkabaaDoor

namespace Go.Proofs.YtdeikpifflkabaaDoor
open Go.RowKit Go.Shelf
set_option linter.unusedVariables false
set_option linter.unusedSimpArgs false

theorem textsE_len : ∀ (n : Nat) (l : List Ent), l.length = n → 1 ≤ n → (textsE l).length + 1 = 2 * n := by
  intro n
  induction n using Nat.strongRecOn with
  | _ n ih =>
    intro l hn h1
    by_cases h : 2 ≤ l.length
    · have hlt := splitN_lt h
      have hpos := splitN_pos l.length
      have a := ih (l.take (splitN l.length)).length (by rw [List.length_take]; omega) _ rfl (by rw [List.length_take]; omega)
      have b := ih (l.drop (splitN l.length)).length (by rw [List.length_drop]; omega) _ rfl (by rw [List.length_drop]; omega)
      rw [List.length_take] at a
      rw [List.length_drop] at b
      rw [textsE_two h, List.length_append, List.length_append, List.length_singleton]
      omega
    · rw [textsE_short h, List.length_singleton]
      omega
theorem textsE_le {l : List Ent} (h : l.length ≤ 70) : (textsE l).length ≤ 140 := by
  by_cases h0 : l.length = 0
  · rw [textsE_short (by omega), List.length_singleton]; omega
  · have := textsE_len l.length l rfl (by omega)
    omega
/-- An own row of slices of the bytes L. -/
def RdsAt (N : Nat) (L : List (List UInt8)) (v : Value) (W : World) : Prop := ∃ vs, W.ownsRow N 59 1 v L.length vs ∧ vs.length = L.length ∧ ∀ (i : Nat) x, vs[i]? = some x → ∃ bs, L[i]? = some bs ∧ Rd 5 W x (bts bs)
theorem stays_rds (N : Nat) (L : List (List UInt8)) : Remains (RdsAt N L) := fun _ _ _ ⟨vs, h1, h2, h3⟩ hb => ⟨vs, own_below h1 hb, h2, fun i x hx => by
  obtain ⟨bs, e, hr⟩ := h3 i x hx
  exact ⟨bs, e, hr.below hb (Nat.le_refl _)⟩⟩
theorem RdsAt.low {N N' : Nat} {L : List (List UInt8)} {v : Value} {W : World} (h : RdsAt N L v W) (hN : N' ≤ N) : RdsAt N' L v W := by
  obtain ⟨vs, h1, h2, h3⟩ := h
  exact ⟨vs, own_low h1 hN, h2, h3⟩
theorem rd_grown {N n : Nat} {v : Value} {xs : List Value} {W W' : World} {x : Value} {cs : List Value} (ho : W.ownsRow N 59 1 v n xs) (hg : W.grownBy W' v.ownBlock) (h : Rd 5 W x cs) : Rd 5 W' x cs :=
  h.moves (Moves.grown (X := fun k _ => some k = v.ownBlock) hg (fun k o e => e)) (fun k cur hk hc e => by
    obtain ⟨_, _, cs', hcs⟩ := own_cells ho e.symm
    rw [hc] at hcs
    injection hcs with hcs
    injection hcs with _ ht
    cases ht)
theorem rds_append {N : Nat} {L L' : List (List UInt8)} {v v' : Value} {vs ys : List Value} {W W' : World} (ho : W.ownsRow N 59 1 v L.length vs) (h2 : vs.length = L.length) (h3 : ∀ (i : Nat) x, vs[i]? = some x → ∃ bs, L[i]? = some bs ∧ Rd 5 W x (bts bs))
    (hy : ys.length = L'.length) (hyr : ∀ (i : Nat) x, ys[i]? = some x → ∃ bs, L'[i]? = some bs ∧ Rd 5 W x (bts bs)) (ho' : W'.ownsRow N 59 1 v' (L.length + L'.length) (vs ++ ys)) (hg : W.grownBy W' v.ownBlock) : RdsAt N (L ++ L') v' W' := by
  refine ⟨vs ++ ys, by rw [List.length_append]; exact ho', by rw [List.length_append, List.length_append, h2, hy], fun i x hx => ?_⟩
  by_cases hi : i < vs.length
  · rw [List.getElem?_append_left hi] at hx
    obtain ⟨bs, e, hr⟩ := h3 i x hx
    exact ⟨bs, by rw [List.getElem?_append_left (by omega)]; exact e, rd_grown ho hg hr⟩
  · rw [List.getElem?_append_right (by omega)] at hx
    obtain ⟨bs, e, hr⟩ := hyr _ x hx
    exact ⟨bs, by rw [List.getElem?_append_right (by omega), ← h2]; exact e, rd_grown ho hg hr⟩
theorem slu8_info : (Tryd.prog.info? 59).map (fun i => (i.zero, i.size, i.bytes)) = some (some (.slice none 0 0), 1, 24) := by kernel_rfl
theorem rd_one {x : Value} {cs : List Value} {e : TypeId} {W : World} (h : Rd e W x cs) : x.oneCell' = true := by
  obtain ⟨A, c, rfl, _⟩ := h
  rfl
theorem rds_ones {L : List (List UInt8)} {vs : List Value} {W : World} (h : ∀ (i : Nat) x, vs[i]? = some x → ∃ bs, L[i]? = some bs ∧ Rd 5 W x (bts bs)) : ∀ u ∈ vs, u.oneCell' = true := fun u hu => by
  obtain ⟨i, hi, rfl⟩ := List.getElem_of_mem hu
  obtain ⟨bs, _, hr⟩ := h i _ (List.getElem?_eq_getElem hi)
  exact rd_one hr
theorem topT_two' {l : List Ent} {k : Nat} (h : 2 ≤ l.length) (hk : splitN l.length = k) : textsE l = textsE (l.take k) ++ textsE (l.drop k) ++ [pairT (rootE (l.take k)) (rootE (l.drop k))] := by
  rw [textsE_two h, topT_two h, hk]
/-- A new slice of one slice of bytes. -/
def RdOne (N : Nat) (bs : List UInt8) (v : Value) (W : World) : Prop := ∃ A x, v = .slice A 1 1 ∧ Sl W W.heap.size 1 A 1 [x] ∧ Rd 5 W x (bts bs)
theorem stays_rdone (N : Nat) (bs : List UInt8) : Remains (RdOne N bs) := fun _ _ _ ⟨A, x, h1, h2, h3⟩ hb => ⟨A, x, h1, (h2.below hb).more hb.size, h3.below hb (Nat.le_refl _)⟩
def RdAt (bs : List UInt8) (v : Value) (W : World) : Prop := Rd 5 W v (bts bs)
theorem stays_rd (bs : List UInt8) : Remains (RdAt bs) := fun _ _ _ h hb => Rd.below h hb (Nat.le_refl _)
theorem own8_rd {W : World} {B : Nat} {v : Value} {bs : List UInt8} (h : Own8 W B v bs) : Rd 5 W v (bts bs) := Rd.of_own h

theorem rds_new {w W : World} {x : Value} {bs : List UInt8} (h : Rd 5 W x (bts bs)) (hw : w.heap.size ≤ W.heap.size) : RdsAt w.heap.size [bs] (.slice (some ⟨W.heap.size, 0, none⟩) 1 1) (W.alloc (.cells #[x] 59)) := by
  refine ⟨[x], World.ownsRow_lit W #[x] 1 hw (by unfold maxLen; omega) (by simp), rfl, fun i y hy => ?_⟩
  have h0 : i = 0 := by
    have := (List.getElem?_eq_some_iff.1 hy).1
    simpa using this
  subst h0
  simp at hy
  subst hy
  have hb : Below W.heap.size W (W.alloc (.cells #[x] 59)) := (by (first | assumption | (repeat (first | exact Below.refl _ _ | assumption | apply Below.drew | apply below_drewN | (refine Below.setCell ?_ (by (try simp) <;> omega) _) | (refine Below.alloc ?_ (by (try simp) <;> omega) _)))))
  exact ⟨bs, rfl, h.below hb (Nat.le_refl _)⟩

attribute [local irreducible] digF
set_option maxRecDepth 100000 in
set_option maxHeartbeats 4000000 in
theorem texts_any : ∀ (n : Nat) (l : List Ent) (A : Option Addr) (c : Nat) (w : World), l.length = n → n ≤ 70 → n ≤ c → c ≤ maxLen → Fits l → Sl w w.heap.size 2 A l.length (eCells l) →
    Calls Tryd.prog 14 #[.slice A n c] w fun e w' => ∃ v, e = .returned v ∧ RdsAt w.heap.size (textsE l) v w' ∧ Below w.heap.size w w' := by
  intro n
  induction n using Nat.strongRecOn with
  | _ n ih =>
  intro l A c w hn h70 hc hcm hf hA
  have HA := Lib.hid hA
  have HF := Lib.hid hf
  have IH := Lib.hid ih
  obtain ⟨i0, hi, hz0, hz1, hz2⟩ := info_parts slu8_info
  clear hA hf ih
  unfold maxLen at hcm
  by_cases hn0 : n = 0
  · obtain rfl := hn0
    obtain rfl : l = [] := List.eq_nil_of_length_eq_zero hn
    have HT : Hid (textsE [] = [[]]) := Lib.hid (by rw [textsE_short (by simp), topT_nil])
    go_enter Tryd.func14, Tryd.ntmps14
    go_wp2_with fail
    go_ret
    have hrd : ∀ W : World, Rd 5 W (.slice (some ⟨w.heap.size, 0, none⟩) 0 0) (bts []) := fun W => ⟨_, 0, rfl, Nat.le_refl _, by simp [maxLen], fun h => absurd h (by simp [bts])⟩
    refine ⟨_, rfl, ?_, (by (first | assumption | (repeat (first | exact Below.refl _ _ | assumption | apply Below.drew | apply below_drewN | (refine Below.setCell ?_ (by (try simp) <;> omega) _) | (refine Below.alloc ?_ (by (try simp) <;> omega) _)))))⟩
    rw [HT.out]
    have hq := rds_new (w := w) (W := w.alloc (.cells #[] 5)) (x := .slice (some ⟨w.heap.size, 0, none⟩) 0 0) (bs := []) (hrd _) (by simp)
    rw [show (w.alloc (.cells #[] 5)).heap.size = w.heap.size + 1 from by simp] at hq
    exact hq
  by_cases hn1 : n = 1
  · obtain rfl := hn1
    obtain ⟨b, off, ka, va, rfl, hb, hca, hcv, hla⟩ := HA.out.ent (k := 0) (by omega)
    have hfit := HF.out _ (List.mem_of_getElem? hla)
    simp only at hfit
    have hlc := leafText_any (ka, va) (by simp only; omega) (by simp only; omega) w
    have HLC := Lib.hid hlc
    have HT : Hid (textsE l = [leafT (ka, va)]) := Lib.hid (by
      match l, hn, hla with
      | [x], _, hla => simp at hla; subst hla; rw [textsE_short (by simp), topT_one])
    simp only [Nat.zero_mul, Nat.add_zero] at hca hcv
    clear hla hfit hlc
    go_enter Tryd.func14, Tryd.ntmps14
    go_wp2_with fail
    with_reducible refine HLC.out.mono ?_
    rintro e w2 ⟨v2, rfl, ho2, hb2⟩
    have HR := Lib.hid (own8_rd ho2)
    have L2 := Lib.hid hb2
    obtain ⟨A2, m2, c2, rfl⟩ : ∃ A2 m2 c2, v2 = .slice A2 m2 c2 := by obtain ⟨A2, c2, e, _⟩ := own8_rd ho2; exact ⟨A2, _, c2, e⟩
    clear ho2 hb2 HLC
    go_wp2_with fail
    go_ret
    refine ⟨_, rfl, ?_, ?_⟩
    · rw [HT.out]
      exact rds_new HR.out L2.out.size
    · have hbel := L2.out
      have hsz := hbel.size
      (first | assumption | (repeat (first | exact Below.refl _ _ | assumption | apply Below.drew | apply below_drewN | (refine Below.setCell ?_ (by (try simp) <;> omega) _) | (refine Below.alloc ?_ (by (try simp) <;> omega) _))))
  · have h2 : 2 ≤ l.length := by omega
    obtain ⟨k, hk⟩ : ∃ k, splitN l.length = k := ⟨_, rfl⟩
    have hkn := splitN_lt h2
    have hk1 := splitN_pos l.length
    have HP := Lib.hid (topT_two' h2 hk)
    rw [hk] at hkn hk1
    have hsp := rsplit_any n (by omega) (by omega)
    rw [← hn, hk] at hsp
    rw [hn] at hsp hkn
    have HSP := Lib.hid hsp
    have ha : (rootE (l.take k)).length = 32 := rootE_len _
    have hb : (rootE (l.drop k)).length = 32 := rootE_len _
    have hlt : (l.take k).length = k := by rw [List.length_take]; omega
    have hld : (l.drop k).length = n - k := by rw [List.length_drop]; omega
    obtain ⟨L1, hL1⟩ : ∃ L, textsE (l.take k) = L := ⟨_, rfl⟩
    obtain ⟨L2, hL2⟩ : ∃ L, textsE (l.drop k) = L := ⟨_, rfl⟩
    have hL1l : L1.length ≤ 140 := by rw [← hL1]; exact textsE_le (by omega)
    have hL2l : L2.length ≤ 140 := by rw [← hL2]; exact textsE_le (by omega)
    obtain ⟨r1, hr1⟩ : ∃ r, rootE (l.take k) = r := ⟨_, rfl⟩
    obtain ⟨r2, hr2⟩ : ∃ r, rootE (l.drop k) = r := ⟨_, rfl⟩
    rw [hL1, hL2, hr1, hr2] at HP
    rw [hr1] at ha
    rw [hr2] at hb
    have HT := Lib.hid (show ∀ W, Below w.heap.size w W → Calls Tryd.prog 14 #[.slice A k c] W fun e w' => ∃ v, e = .returned v ∧ RdsAt W.heap.size L1 v w' ∧ Below W.heap.size W w' from fun W hb => by
      have := IH.out k hkn (l.take k) A c W hlt (by omega) (by omega) (by unfold maxLen; omega) (HF.out.take k) (((HA.out.etake (by omega)).below hb).more hb.size)
      rwa [hL1] at this)
    have HRT := Lib.hid (show ∀ W, Below w.heap.size w W → Calls Tryd.prog 32 #[.slice A k c] W fun e w' => e = .returned (.agg (bts r1).toArray) ∧ Below W.heap.size W w' from fun W hb => by
      have := mroot_any k (l.take k) A c W hlt (by omega) (by omega) (by unfold maxLen; omega) (HF.out.take k) (((HA.out.etake (by omega)).below hb).more hb.size)
      rwa [hr1] at this)
    obtain ⟨b, off, rfl, hbb, _⟩ := HA.out.2 (by omega)
    have HD := Lib.hid (show ∀ W, Below w.heap.size w W → Calls Tryd.prog 14 #[.slice (some ⟨b, off + k * 2, none⟩) ((n : Int) - (k : Int)).toNat ((c : Int) - (k : Int)).toNat] W fun e w' => ∃ v, e = .returned v ∧ RdsAt W.heap.size L2 v w' ∧ Below W.heap.size W w' from fun W hb => by
      rw [show ((n : Int) - (k : Int)).toNat = n - k by omega, show ((c : Int) - (k : Int)).toNat = c - k by omega]
      have hs := edrop_at HA.out (cap := c) (k := k) (by omega) (by omega) hk1
      have := IH.out (n - k) (by omega) (l.drop k) _ (c - k) W hld (by omega) (by omega) (by unfold maxLen; omega) (HF.out.drop k) ((hs.below hb).more hb.size)
      rwa [hL2] at this)
    have HRD := Lib.hid (show ∀ W, Below w.heap.size w W → Calls Tryd.prog 32 #[.slice (some ⟨b, off + k * 2, none⟩) ((n : Int) - (k : Int)).toNat ((c : Int) - (k : Int)).toNat] W fun e w' => e = .returned (.agg (bts r2).toArray) ∧ Below W.heap.size W w' from fun W hb => by
      rw [show ((n : Int) - (k : Int)).toNat = n - k by omega, show ((c : Int) - (k : Int)).toNat = c - k by omega]
      have hs := edrop_at HA.out (cap := c) (k := k) (by omega) (by omega) hk1
      have := mroot_any (n - k) (l.drop k) _ (c - k) W hld (by omega) (by omega) (by unfold maxLen; omega) (HF.out.drop k) ((hs.below hb).more hb.size)
      rwa [hr2] at this)
    obtain ⟨N, hN⟩ : ∃ g, w.heap.size = g := ⟨_, rfl⟩
    have HN := Lib.hid hN
    clear hsp hlt hld hk hL1 hL2 hr1 hr2
    go_enter Tryd.func14, Tryd.ntmps14
    go_upto_region 7 with (go_at_call 30; with_reducible refine (HSP.out _).mono ?_; rintro e w1 ⟨rfl, hw1⟩; rw [hw1]; clear hw1)
    have HW : Hid (∀ W, Below w.drew.heap.size w.drew W → Below w.heap.size w W ∧ N ≤ W.heap.size) := Lib.hid (fun W h =>
      have hd : Below w.heap.size w w.drew := (Below.refl _ _).drew
      have h1 := hd.trans (h.mono (Nat.le_refl _))
      ⟨h1, by have := h1.size; omega⟩)
    clear hN
    refine wp_region_each_tail 8 (lstV [fun v _ => v = .slice (some ⟨b, off, none⟩) n c, fun v _ => v = .int .i64 (k : Int), fun v _ => v = .slice (some ⟨b, off, none⟩) k c, RdsAt N L1, fun v _ => v = .slice (some ⟨b, off, none⟩) n c, fun v _ => v = .int .i64 (k : Int), fun v _ => v = .slice (some ⟨b, off + k * 2, none⟩) ((n : Int) - (k : Int)).toNat ((c : Int) - (k : Int)).toNat, RdsAt N L2]) (by kernel_rfl) (by kernel_rfl) (lstV_on (by repeat' (first | exact forall_nil | refine forall_cons ?_ ?_ | exact stays_rds _ _ | exact stays_eq _))) ?turns ?fin
    case turns =>
      refine ⟨fun a W pre => ?_, fun a W pre => ?_, fun a W pre => ?_, fun a W pre => ?_, fun a W pre => ?_, fun a W pre => ?_, fun a W pre => ?_, fun a W pre => ?_, trivial⟩
      · (refine .inl ?_; have q0 : a.eval (.tmp 0) = .slice (some ⟨b, off, none⟩) n c := pre.was 0 (by kernel_rfl) rfl; rw [Act.eval, Array.getD_eq_getD_getElem?] at q0; exact does_val (want_none rfl) (by go_simp) rfl)
      · (refine .inl ?_; have q0 : a.eval (.tmp 3) = .int .i64 (k : Int) := pre.was 3 (by kernel_rfl) rfl; rw [Act.eval, Array.getD_eq_getD_getElem?] at q0; exact does_val (want_none rfl) (by go_simp) rfl)
      · have hkc : k ≤ c := by omega
        (refine .inl ?_; have q0 : a.eval (.tmp 21) = .slice (some ⟨b, off, none⟩) n c := pre.val 0 21 (by kernel_rfl) (by kernel_rfl); have q1 : a.eval (.tmp 22) = .int .i64 (k : Int) := pre.val 1 22 (by kernel_rfl) (by kernel_rfl); rw [Act.eval, Array.getD_eq_getD_getElem?] at q0 q1; exact does_val (want_none rfl) (by go_simp) rfl)
      · refine .inl ?_
        have q0 : a.eval (.tmp 23) = .slice (some ⟨b, off, none⟩) k c := pre.val 2 23 (by kernel_rfl) (by kernel_rfl)
        rw [Act.eval, Array.getD_eq_getD_getElem?] at q0
        refine does_callx (want_none rfl) (by go_simp) ((HT.out W (HW.out W pre.b).1).mono fun e W' h => ?_)
        obtain ⟨v, rfl, h1, h2⟩ := h
        exact ⟨v, rfl, h1.low (HW.out W pre.b).2, h2⟩
      · (refine .inl ?_; have q0 : a.eval (.tmp 0) = .slice (some ⟨b, off, none⟩) n c := pre.was 0 (by kernel_rfl) rfl; rw [Act.eval, Array.getD_eq_getD_getElem?] at q0; exact does_val (want_none rfl) (by go_simp) rfl)
      · (refine .inl ?_; have q0 : a.eval (.tmp 3) = .int .i64 (k : Int) := pre.was 3 (by kernel_rfl) rfl; rw [Act.eval, Array.getD_eq_getD_getElem?] at q0; exact does_val (want_none rfl) (by go_simp) rfl)
      · have hkn' : (k : Int) ≤ (n : Int) := by omega
        have hkc : ¬ c = k := by omega
        have hk0 : ¬ k = 0 := by omega
        (refine .inl ?_; have q0 : a.eval (.tmp 25) = .slice (some ⟨b, off, none⟩) n c := pre.val 4 25 (by kernel_rfl) (by kernel_rfl); have q1 : a.eval (.tmp 26) = .int .i64 (k : Int) := pre.val 5 26 (by kernel_rfl) (by kernel_rfl); rw [Act.eval, Array.getD_eq_getD_getElem?] at q0 q1; exact does_val (want_none rfl) (by go_simp) rfl)
      · refine .inl ?_
        have q0 : a.eval (.tmp 27) = .slice (some ⟨b, off + k * 2, none⟩) ((n : Int) - (k : Int)).toNat ((c : Int) - (k : Int)).toNat := pre.val 6 27 (by kernel_rfl) (by kernel_rfl)
        rw [Act.eval, Array.getD_eq_getD_getElem?] at q0
        refine does_callx (want_none rfl) (by go_simp) ((HD.out W (HW.out W pre.b).1).mono fun e W' h => ?_)
        obtain ⟨v, rfl, h1, h2⟩ := h
        exact ⟨v, rfl, h1.low (HW.out W pre.b).2, h2⟩
    case fin =>
      intro a W hbW hsz2 hd hv ho
      have hs8 : a.tmps.size = 42 := by rw [hsz2]; rfl
      obtain ⟨hbw, hbs⟩ := HW.out W hbW
      obtain ⟨xs, x1, x2, x3⟩ : RdsAt N L1 (a.eval (.tmp 24)) W := hv 3 24 (by decide) (by kernel_rfl)
      obtain ⟨ys, y1, y2, y3⟩ : RdsAt N L2 (a.eval (.tmp 28)) W := hv 7 28 (by decide) (by kernel_rfl)
      obtain ⟨A2, c2, q28, s1, s2, s3⟩ := own_sl y1
      obtain ⟨v24, q24⟩ : ∃ v, a.eval (.tmp 24) = v := ⟨_, rfl⟩
      rw [q24] at x1
      simp only [List.drop_succ_cons, List.drop_zero]
      refine wpList_append_sl W rfl (.tmp 24) (.tmp 28) 33 rfl N 59 i0 _ 1 24 Tryd.underlying33 hi hz0 hz1 hz2 rfl (by omega) v24 L1.length xs q24 x1 A2 L2.length c2 ys q28 s3 (rds_ones y3) (by unfold maxLen; omega) (by omega) hbs ?_
      intro v4 w4 ho_ hg_ hz_
      have HR4 := Lib.hid (rds_append x1 x2 x3 y2 y3 ho_ hg_)
      have L4 : Hid (Below w.heap.size w w4) := Lib.hid (hbw.grown hg_ hbw.size (fun k hk => by rw [HN.out]; exact (own_cells x1 hk).1))
      have q0 : a.eval (.tmp 0) = .slice (some ⟨b, off, none⟩) n c := ho 0 (no_dst (by kernel_rfl))
      have q3 : a.eval (.tmp 3) = .int .i64 (k : Int) := ho 3 (no_dst (by kernel_rfl))
      rw [Act.eval, Array.getD_eq_getD_getElem?] at q0 q3
      clear ho_ hg_ hz_ x1 x2 x3 y1 y2 y3 s1 s2 s3 q28 q24 hbw hbW hv ho HT HD
      go_upto_region 8 with fail
      have c4 : ((a.tmps.setIfInBounds 29 v4).setIfInBounds 4 v4).getD 4 undef = v4 := by simp [hs8]
      have c0 : ((a.tmps.setIfInBounds 29 v4).setIfInBounds 4 v4).getD 0 undef = .slice (some ⟨b, off, none⟩) n c := by
        rw [Array.getD_eq_getD_getElem?, Array.getElem?_setIfInBounds_ne (by decide), Array.getElem?_setIfInBounds_ne (by decide)]; exact q0
      have c3 : ((a.tmps.setIfInBounds 29 v4).setIfInBounds 4 v4).getD 3 undef = .int .i64 (k : Int) := by
        rw [Array.getD_eq_getD_getElem?, Array.getElem?_setIfInBounds_ne (by decide), Array.getElem?_setIfInBounds_ne (by decide)]; exact q3
      have cs : ((a.tmps.setIfInBounds 29 v4).setIfInBounds 4 v4).size = 42 := by simp [hs8]
      obtain ⟨T, hT⟩ : ∃ T, (a.tmps.setIfInBounds 29 v4).setIfInBounds 4 v4 = T := ⟨_, rfl⟩
      rw [hT] at c4 c0 c3 cs ⊢
      clear hT q0 q3 hs8 hd hsz2 hbs HW a
      have HW : Hid (∀ W, Below w4.drew.heap.size w4.drew W → Below w.heap.size w W ∧ N ≤ W.heap.size ∧ RdsAt N (L1 ++ L2) v4 W) := Lib.hid (fun W h =>
        have hd : Below w4.heap.size w4 w4.drew := (Below.refl _ _).drew
        have h0 : Below w4.heap.size w4 W := hd.trans (h.mono (Nat.le_refl _))
        have h1 := L4.out.trans (h0.mono L4.out.size)
        ⟨h1, by have := h1.size; rw [← HN.out]; exact this, stays_rds _ _ _ _ _ HR4.out h0⟩)
      refine wp_region_each_tail 11 (lstV [RdsAt N (L1 ++ L2), fun v _ => v = .slice (some ⟨b, off, none⟩) n c, fun v _ => v = .int .i64 (k : Int), fun v _ => v = .slice (some ⟨b, off, none⟩) k c, fun v _ => v = .agg (bts r1).toArray, fun v _ => v = .slice (some ⟨b, off, none⟩) n c, fun v _ => v = .int .i64 (k : Int), fun v _ => v = .slice (some ⟨b, off + k * 2, none⟩) ((n : Int) - (k : Int)).toNat ((c : Int) - (k : Int)).toNat, fun v _ => v = .agg (bts r2).toArray, RdAt (pairT r1 r2), RdOne N (pairT r1 r2)]) (by kernel_rfl) (by rw [cs]; kernel_rfl) (lstV_on (by repeat' (first | exact forall_nil | refine forall_cons ?_ ?_ | exact stays_rds _ _ | exact stays_rd _ | exact stays_rdone _ _ | exact stays_eq _))) ?turns8 ?fin8
      case turns8 =>
        refine ⟨fun a W pre => ?_, fun a W pre => ?_, fun a W pre => ?_, fun a W pre => ?_, fun a W pre => ?_, fun a W pre => ?_, fun a W pre => ?_, fun a W pre => ?_, fun a W pre => ?_, fun a W pre => ?_, fun a W pre => ?_, trivial⟩
        · refine .inl ?_
          have q0 : a.eval (.tmp 4) = v4 := pre.was 4 (by kernel_rfl) c4
          rw [Act.eval, Array.getD_eq_getD_getElem?] at q0
          exact does_val (want_none rfl) (by go_simp) (HW.out W pre.b).2.2
        · refine .inl ?_
          have q0 : a.eval (.tmp 0) = .slice (some ⟨b, off, none⟩) n c := pre.was 0 (by kernel_rfl) c0
          rw [Act.eval, Array.getD_eq_getD_getElem?] at q0
          exact does_val (want_none rfl) (by go_simp) rfl
        · refine .inl ?_
          have q0 : a.eval (.tmp 3) = .int .i64 (k : Int) := pre.was 3 (by kernel_rfl) c3
          rw [Act.eval, Array.getD_eq_getD_getElem?] at q0
          exact does_val (want_none rfl) (by go_simp) rfl
        · have hkc : k ≤ c := by omega
          (refine .inl ?_; have q0 : a.eval (.tmp 31) = .slice (some ⟨b, off, none⟩) n c := pre.val 1 31 (by kernel_rfl) (by kernel_rfl); have q1 : a.eval (.tmp 32) = .int .i64 (k : Int) := pre.val 2 32 (by kernel_rfl) (by kernel_rfl); rw [Act.eval, Array.getD_eq_getD_getElem?] at q0 q1; exact does_val (want_none rfl) (by go_simp) rfl)
        · (refine .inl ?_; have q0 : a.eval (.tmp 33) = .slice (some ⟨b, off, none⟩) k c := pre.val 3 33 (by kernel_rfl) (by kernel_rfl); rw [Act.eval, Array.getD_eq_getD_getElem?] at q0; exact does_call (want_none rfl) (by go_simp) (HRT.out W (HW.out W pre.b).1) (fun _ => rfl))
        · refine .inl ?_
          have q0 : a.eval (.tmp 0) = .slice (some ⟨b, off, none⟩) n c := pre.was 0 (by kernel_rfl) c0
          rw [Act.eval, Array.getD_eq_getD_getElem?] at q0
          exact does_val (want_none rfl) (by go_simp) rfl
        · refine .inl ?_
          have q0 : a.eval (.tmp 3) = .int .i64 (k : Int) := pre.was 3 (by kernel_rfl) c3
          rw [Act.eval, Array.getD_eq_getD_getElem?] at q0
          exact does_val (want_none rfl) (by go_simp) rfl
        · have hkn' : (k : Int) ≤ (n : Int) := by omega
          have hkc : ¬ c = k := by omega
          have hk0 : ¬ k = 0 := by omega
          (refine .inl ?_; have q0 : a.eval (.tmp 35) = .slice (some ⟨b, off, none⟩) n c := pre.val 5 35 (by kernel_rfl) (by kernel_rfl); have q1 : a.eval (.tmp 36) = .int .i64 (k : Int) := pre.val 6 36 (by kernel_rfl) (by kernel_rfl); rw [Act.eval, Array.getD_eq_getD_getElem?] at q0 q1; exact does_val (want_none rfl) (by go_simp) rfl)
        · (refine .inl ?_; have q0 : a.eval (.tmp 37) = .slice (some ⟨b, off + k * 2, none⟩) ((n : Int) - (k : Int)).toNat ((c : Int) - (k : Int)).toNat := pre.val 7 37 (by kernel_rfl) (by kernel_rfl); rw [Act.eval, Array.getD_eq_getD_getElem?] at q0; exact does_call (want_none rfl) (by go_simp) (HRD.out W (HW.out W pre.b).1) (fun _ => rfl))
        · refine .inl ?_
          have q0 : a.eval (.tmp 34) = .agg (bts r1).toArray := pre.val 4 34 (by kernel_rfl) (by kernel_rfl)
          have q1 : a.eval (.tmp 38) = .agg (bts r2).toArray := pre.val 8 38 (by kernel_rfl) (by kernel_rfl)
          rw [Act.eval, Array.getD_eq_getD_getElem?] at q0 q1
          refine does_callx (want_none rfl) (by go_simp) ((twoText_any r1 r2 ha hb W).mono fun e W' h => ?_)
          obtain ⟨v, rfl, h1, h2⟩ := h
          exact ⟨v, rfl, own8_rd h1, h2⟩
        · refine .inl ?_
          obtain ⟨A2, c2, e2, hx2⟩ : RdAt (pairT r1 r2) (a.eval (.tmp 39)) W := pre.val 9 39 (by kernel_rfl) (by kernel_rfl)
          have hrd : RdAt (pairT r1 r2) (a.eval (.tmp 39)) W := pre.val 9 39 (by kernel_rfl) (by kernel_rfl)
          rw [e2] at hrd
          obtain ⟨m2, hm2⟩ : ∃ m, (bts (pairT r1 r2)).length = m := ⟨_, rfl⟩
          rw [hm2] at e2 hrd
          clear hx2 hm2
          have q0 := e2
          rw [Act.eval, Array.getD_eq_getD_getElem?] at q0
          have hb_ : Below W.heap.size W (W.alloc (.cells #[.slice A2 m2 c2] 59)) := (by (first | assumption | (repeat (first | exact Below.refl _ _ | assumption | apply Below.drew | apply below_drewN | (refine Below.setCell ?_ (by (try simp) <;> omega) _) | (refine Below.alloc ?_ (by (try simp) <;> omega) _)))))
          have hK := Bk.new W 59 #[.slice A2 m2 c2]
          exact does_new (want_none rfl) (by go_simp) hb_ ⟨_, _, rfl, ⟨rfl, fun _ => ⟨W.heap.size, 0, rfl, hK.lt, fun j u hu => by rw [Nat.zero_add, hK.cell, List.getElem?_toArray]; exact hu⟩⟩, Rd.below hrd hb_ (Nat.le_refl _)⟩
      case fin8 =>
        intro a W hbW hsz2 hd hv ho
        have hs8 : a.tmps.size = 42 := by rw [hsz2]; exact cs
        obtain ⟨hbw, hbs, _⟩ := HW.out W hbW
        obtain ⟨xs, x1, x2, x3⟩ : RdsAt N (L1 ++ L2) (a.eval (.tmp 30)) W := hv 0 30 (by decide) (by kernel_rfl)
        obtain ⟨A2, y, q40, s1, s2⟩ : RdOne N (pairT r1 r2) (a.eval (.tmp 40)) W := hv 10 40 (by decide) (by kernel_rfl)
        obtain ⟨v30, q30⟩ : ∃ v, a.eval (.tmp 30) = v := ⟨_, rfl⟩
        rw [q30] at x1
        have hLl : (L1 ++ L2).length ≤ 280 := by rw [List.length_append]; omega
        have y3 : ∀ (i : Nat) x, [y][i]? = some x → ∃ bs, [pairT r1 r2][i]? = some bs ∧ Rd 5 W x (bts bs) := fun i x hx => by
          have h0 : i = 0 := by
            have := (List.getElem?_eq_some_iff.1 hx).1
            simpa using this
          subst h0
          simp at hx
          subst hx
          exact ⟨_, rfl, s2⟩
        simp only [List.drop_succ_cons, List.drop_zero]
        refine wpList_append_sl W rfl (.tmp 30) (.tmp 40) 33 rfl N 59 i0 _ 1 24 Tryd.underlying33 hi hz0 hz1 hz2 rfl (by omega) v30 (L1 ++ L2).length xs q30 x1 A2 1 1 [y] q40 s1 (rds_ones y3) (by unfold maxLen; omega) (by omega) hbs ?_
        intro v5 w5 ho_ hg_ hz_
        have HR5 := Lib.hid (rds_append (L' := [pairT r1 r2]) x1 x2 x3 rfl y3 ho_ hg_)
        have L5 : Hid (Below w.heap.size w w5) := Lib.hid (hbw.grown hg_ hbw.size (fun k hk => by rw [HN.out]; exact (own_cells x1 hk).1))
        clear ho_ hg_ hz_ x1 x2 x3 s1 s2 y3 q40 q30 hbw hbW hv ho
        go_wp2_with fail
        refine bodyPost_ret (results_tmp rfl _ _ _) (by first | rfl | exact hd) ?_
        refine ⟨v5, congrArg Ending.returned (by simp [hs8]), ?_, L5.out⟩
        rw [HP.out, HN.out]
        exact HR5.out
end Go.Proofs.YtdeikpifflkabaaDoor

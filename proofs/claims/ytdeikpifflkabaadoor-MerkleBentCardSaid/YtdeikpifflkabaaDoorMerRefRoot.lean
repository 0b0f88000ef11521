/- What this text proves: the contracts of the reference's Hash and Text: the bytes of a field, in memory of the call's own. The conditions are that the field is one. the contracts of the reference's leaf and two. The conditions are the sizes of what is hashed. the contract of the reference's two: the hash of two hashes. The condition: they are hashes. the root of some entries (the contract of the reference's root). The conditions: no more entries, and no longer texts, than are asked about; how they lie in memory. -/
import Derived.Test.YtdeikpifflkabaaDoorMerPure
import Derived.Test.YtdeikpifflkabaaDoorAppendSl
import Derived.Deep.AppendLies
import Derived.Lib.AppendStr
import Derived.Test.YtdeikpifflkabaaDoorMerLeaves
import Derived.Test.YtdeikpifflkabaaDoorRefBlakeJ
import Derived.Test.YtdeikpifflkabaaDoorMerFew
import Derived.Test.YtdeikpifflkabaaDoorRefBlakeS
namespace Go.Proofs.YtdeikpifflkabaaDoor
open Go.RowKit Go.Shelf
set_option linter.unusedVariables false
set_option linter.unusedSimpArgs false

def Own8 (w : World) (B : Nat) (v : Value) (l : List UInt8) : Prop := w.ownsRow B 5 1 v l.length (bts l)
theorem mu8_nat (n : Nat) : (UInt8.ofNat (n % 256)).toNat = n % 256 := by rw [UInt8.toNat_ofNat']; omega
theorem lenB_len (s : ByteArray) : (lenB s).length = 2 := rfl
theorem mstrCells_bts (s : ByteArray) : Lib.strCells s = bts s.data.toList := by
  simp [Lib.strCells, bts]
theorem own8_lit (w : World) (cs : Array Value) (n : Nat) (hn : cs.size = n) (hm : n ≤ maxLen) : (w.alloc (.cells cs 5)).ownsRow w.heap.size 5 1 (.slice (some ⟨w.heap.size, 0, none⟩) n n) n cs.toList :=
  ⟨by simp [hn], .inr ⟨w.heap.size, n, cs, rfl, Nat.le_refl _, heap_alloc_new w _, Nat.le_refl _, hm, by omega, by rw [Nat.mul_one, ← hn, ← Array.length_toList, List.take_length]⟩⟩
theorem own8_low {w : World} {B B' n : Nat} {v : Value} {xs : List Value} (h : w.ownsRow B 5 1 v n xs) (hb : B' ≤ B) : w.ownsRow B' 5 1 v n xs := by
  refine ⟨h.1, ?_⟩
  rcases h.2 with h | ⟨g, cap, cur, h1, h2, h3⟩
  · exact .inl h
  · exact .inr ⟨g, cap, cur, h1, Nat.le_trans hb h2, h3⟩

set_option maxRecDepth 100000 in
set_option maxHeartbeats 2000000 in
theorem mhash_any (hs : List UInt8) (h32 : hs.length = 32) (w : World) :
    Calls Tryd.prog 52 #[.agg (bts hs).toArray] w fun e w' => ∃ v, e = .returned v ∧ Own8 w' w.heap.size v hs ∧ Below w.heap.size w w' := by
  obtain ⟨i0, hi, hz0, hz1, hz2⟩ := info_parts u8_info
  have B0 := Lib.hid (Bk.new w 26 (bts hs).toArray)
  have L0 : Hid (Below w.heap.size w (w.alloc (.cells (bts hs).toArray 26))) := Lib.hid (by (first | assumption | (repeat (first | exact Below.refl _ _ | assumption | apply Below.drew | apply below_drewN | (refine Below.setCell ?_ (by (try simp) <;> omega) _) | (refine Below.alloc ?_ (by (try simp) <;> omega) _)))))
  obtain ⟨g0, hg0⟩ : ∃ x, w.heap.size = x := ⟨_, rfl⟩
  obtain ⟨w1, hw1⟩ : ∃ x, w.alloc (.cells (bts hs).toArray 26) = x := ⟨_, rfl⟩
  have HG := Lib.hid hg0
  rw [hg0, hw1] at B0 L0
  have HB1 : Hid (g0 + 1 ≤ w1.heap.size) := Lib.hid (by have := B0.out.lt; omega)
  go_enter Tryd.func52, Tryd.ntmps52
  go_upto_region 3 with fail
  clear hw1 hg0
  go_wp2_with fail
  go_loopw [3, 4] (fun v i wr => ∃ (k : Nat), k ≤ 32 ∧ i = .int .i64 k ∧ wr.ownsRow (g0 + 1) 5 1 v k (bts (hs.take k)) ∧ Below (g0 + 1) w1 wr) (fun _ i _ => 32 - (intOf i).toNat)
  case atStart => exact ⟨0, by omega, rfl, World.ownsRow_nil _ _ _ _, Below.refl _ _⟩
  case round =>
    obtain ⟨k, hk, rfl, ho, hb⟩ := hrel
    have O := Lib.hid ho
    have L := Lib.hid hb
    have hsz := Nat.le_trans HB1.out L.out.size
    clear ho hb
    by_cases hlt : k < 32
    · have hlt' : (k : Int) < 32 := by omega
      obtain ⟨c, hc⟩ : ∃ c, hs[k]? = some c := ⟨_, List.getElem?_eq_getElem (by omega)⟩
      have hcell : wr.cell? ⟨g0, k, none⟩ = some (.int .u8 (c.toNat : Int)) := by
        rw [(B0.out.below L.out (by omega)).cell k, List.getElem?_toArray]
        exact bts_at hc
      have hcat : Hid (bts (hs.take k) ++ [.int .u8 (c.toNat : Int)] = bts (hs.take (k + 1))) := Lib.hid (by rw [take_at hc, bts_app]; rfl)
      have HK : Hid (k < 32) := Lib.hid hlt
      clear hc
      have C1 := Lib.hid (World.news_of_block (cs := #[.int .u8 (c.toNat : Int)]) (t := 5) (fr := (0, 0)) (heap_alloc_new wr _))
      go_wp2_with (refine wpList_append_lies (w := wr.alloc (.cells #[.int .u8 (c.toNat : Int)] 5)) (by rfl) _ _ 59 (by rfl) (g0 + 1) 5 i0 _ 1 1 Tryd.underlying59 hi hz0 hz1 hz2 rfl (by omega) _ k (bts (hs.take k)) (by rfl) (O.out.alloc _) ⟨wr.heap.size, 0, none⟩ 1 1 [.int .u8 (c.toNat : Int)] (by rfl) (by rfl) (by exact C1.out) (by simp [Value.oneCell']) (by omega) (by unfold maxLen; omega) (by omega) (by simp; omega) _ (by rfl) ?_; intro gg cap w3 hown2 hgrow hat hlt_)
      have L3 : Hid (Below (g0 + 1) w1 w3) := Lib.hid ((L.out.alloc hsz _).grown hgrow (by simp; omega) (fun k hk => (own_cells O.out hk).1))
      have O3 : Hid (w3.ownsRow (g0 + 1) 5 1 (.slice (some ⟨gg, 0, none⟩) (k + 1) cap) (k + 1) (bts (hs.take (k + 1)))) := Lib.hid (by rw [← hcat.out]; exact hown2)
      clear hown2 hgrow hat hlt_ C1 O L hcell
      go_wp2_with fail
      go_roundw
      case rel => exact ⟨k + 1, by omega, by go_num, O3.out, L3.out⟩
      case measure => have := HK.out; simp [intOf]; omega
    · obtain rfl : k = 32 := by omega
      have ho := O.out
      rw [List.take_of_length_le (by omega)] at ho
      have HO := Lib.hid ho
      clear ho O
      go_wp2_with fail
      go_ret
      refine ⟨u3, rfl, ?_, ?_⟩
      · unfold Own8
        rw [HG.out, h32]
        exact Go.Proofs.YtdeikpifflkabaaDoor.own8_low HO.out (by omega)
      · rw [HG.out]
        exact L0.out.trans (L.out.mono (by omega))

set_option maxRecDepth 100000 in
set_option maxHeartbeats 2000000 in
theorem mtext_any (s : ByteArray) (hs : s.size ≤ 4096) (w : World) :
    Calls Tryd.prog 51 #[.string s] w fun e w' => ∃ v, e = .returned v ∧ Own8 w' w.heap.size v (lenB s ++ s.data.toList) ∧ Below w.heap.size w w' := by
  obtain ⟨i0, hi, hz0, hz1, hz2⟩ := info_parts u8_info
  obtain ⟨n, hn⟩ : ∃ n, s.size = n := ⟨_, rfl⟩
  have HN := Lib.hid hn
  have hn4 : n ≤ 4096 := by omega
  have HBE : Hid (bts (lenB s) = [.int .u8 ((n : Int) / 256), .int .u8 ((n : Int) % 256)]) := Lib.hid (by
    have e : lenB s = [UInt8.ofNat (n / 256 % 256), UInt8.ofNat (n % 256)] := by rw [lenB, hn]
    rw [e]
    simp only [bts, List.map_cons, List.map_nil, mu8_nat]
    have : n / 256 % 256 = n / 256 := by omega
    rw [this]
    push_cast
    rfl)
  have O0 := Lib.hid (own8_lit w #[.int .u8 ((n : Int) / 256), .int .u8 ((n : Int) % 256)] 2 rfl (by unfold maxLen; omega))
  have L0 : Hid (Below w.heap.size w (w.alloc (.cells #[.int .u8 ((n : Int) / 256), .int .u8 ((n : Int) % 256)] 5))) := Lib.hid (by (first | assumption | (repeat (first | exact Below.refl _ _ | assumption | apply Below.drew | apply below_drewN | (refine Below.setCell ?_ (by (try simp) <;> omega) _) | (refine Below.alloc ?_ (by (try simp) <;> omega) _)))))
  go_enter Tryd.func51, Tryd.ntmps51
  go_wp2_with (refine Lib.wpList_append_own_string (w := w.alloc (.cells #[.int .u8 ((n : Int) / 256), .int .u8 ((n : Int) % 256)] 5)) (by rfl) _ _ 59 9 (by rfl) w.heap.size 5 i0 Tryd.underlying59 Tryd.underlying9 hi hz0 hz1 hz2 (.slice (some ⟨w.heap.size, 0, none⟩) 2 2) 2 [.int .u8 ((n : Int) / 256), .int .u8 ((n : Int) % 256)] (by rfl) O0.out s (by rfl) (by unfold maxLen; omega) (by omega) (by simp) ?_; intro v2 w2 ho_ hg_ hz_; have HO := Lib.hid ho_; have HL : Hid (Below w.heap.size w w2) := Lib.hid (L0.out.grown hg_ (by simp) (fun k hk => (own_cells O0.out hk).1)); clear ho_ hg_ hz_)
  go_ret
  refine ⟨v2, rfl, ?_, HL.out⟩
  unfold Own8
  have := HO.out
  rw [HN.out] at this
  rw [bts_app, HBE.out, List.length_append, lenB_len, show s.data.toList.length = n from HN.out]
  rw [mstrCells_bts] at this
  exact this
end Go.Proofs.YtdeikpifflkabaaDoor

namespace Go.Proofs.YtdeikpifflkabaaDoor
open Go.RowKit
set_option linter.unusedVariables false
set_option linter.unusedSimpArgs false

section
variable {P : Program} {ops : Array Oper} {V : Nat → Value → World → Prop} {i : Nat} {o : Oper} {a : Act} {W : World}
theorem does_callx {f : FuncId} {args : Array Value} (hw : Region.wanted o (yielded ops a.tmps) = true) (hr : (execOp a.eval o).run P W = .ok (.enter f args) W)
    (hc : Calls P f args W fun e W' => ∃ v, e = .returned v ∧ V i v W' ∧ Below W.heap.size W W') : EachDoes P ops V i o a W :=
  ⟨hw, fun Q' => by
    unfold Oper.wp
    rw [hr, Oper.upon_enter]
    refine Calls.mono hc fun e W' he => ?_
    obtain ⟨v, rfl, hv, hb⟩ := he
    exact ⟨v, rfl, hv, hb⟩⟩
end
/-- A slice of the bytes bs. -/
def PartAt (bs : List UInt8) (v : Value) (W : World) : Prop := ∃ A c, v = .slice A bs.length c ∧ Part.good W (A, c, bs)
theorem stays_part (bs : List UInt8) : Remains (PartAt bs) := fun _ _ _ ⟨A, c, h1, h2⟩ hb => ⟨A, c, h1, Part.good.below h2 hb⟩
theorem own8_part {W : World} {B : Nat} {v : Value} {bs : List UInt8} (h : Own8 W B v bs) : PartAt bs v W := by
  obtain ⟨A, c, rfl, h1, h2, h3⟩ := own_sl h
  exact ⟨A, c, rfl, h1, h2, h3⟩
/-- A slice of slices of the bytes bs. -/
def PartsAt (bs : List (List UInt8)) (v : Value) (W : World) : Prop := ∃ (A : Option Addr) (l : List Part) (c : Nat), v = .slice A l.length c ∧ l.map (·.2.2) = bs ∧ Sl W W.heap.size 1 A l.length (l.map slv) ∧ ∀ p ∈ l, p.good W
theorem stays_parts (bs : List (List UInt8)) : Remains (PartsAt bs) := fun _ _ _ ⟨A, l, c, h1, h2, h3, h4⟩ hb => ⟨A, l, c, h1, h2, (h3.below hb).more hb.size, fun p hp => Part.good.below (h4 p hp) hb⟩
theorem parts_built {W : World} {l : List Part} {cs : List Value} {n : Nat} (hg : ∀ p ∈ l, p.good W) (hcs : cs = l.map slv) (hn : l.length = n) : PartsAt (l.map (·.2.2)) (.slice (some ⟨W.heap.size, 0, none⟩) n n) (W.alloc (.cells cs.toArray 59)) := by
  subst hn hcs
  have hb : Below W.heap.size W (W.alloc (.cells (l.map slv).toArray 59)) := (by (first | assumption | (repeat (first | exact Below.refl _ _ | assumption | apply Below.drew | apply below_drewN | (refine Below.setCell ?_ (by (try simp) <;> omega) _) | (refine Below.alloc ?_ (by (try simp) <;> omega) _)))))
  exact ⟨_, l, _, rfl, rfl, built_sl (by simp), fun p hp => Part.good.below (hg p hp) hb⟩
theorem catF_parts {l : List Part} {bs : List (List UInt8)} (h : l.map (·.2.2) = bs) : catF l = bs.flatten := by
  rw [catF, ← h, List.flatMap_def]
theorem rjoin_parts (t : UInt8) (bs : List (List UInt8)) (v : Value) (W : World) (hv : PartsAt bs v W) (hn : bs.length ≤ 1000) (hs : bs.flatten.length ≤ 100000000) :
    Calls Tryd.prog 59 #[.int .u8 (t.toNat : Int), v] W fun e w' => e = .returned (.agg (bts (digF (t :: bs.flatten))).toArray) ∧ Below W.heap.size W w' := by
  obtain ⟨A, l, c, rfl, h2, h3, h4⟩ := hv
  have hl : l.length = bs.length := by rw [← h2, List.length_map]
  have := rjoin_any t A l c W (by unfold maxLen; omega) (by rw [catF_parts h2]; exact hs) h3 h4
  rwa [joinF, catF_parts h2] at this

attribute [local irreducible] digF
set_option maxRecDepth 100000 in
set_option maxHeartbeats 4000000 in
theorem rleaf_any (e : Ent) (he1 : e.1.size ≤ 4096) (he2 : e.2.size ≤ 4096) (w : World) :
    Calls Tryd.prog 42 #[.agg #[.string e.1, .string e.2]] w fun en w' => en = .returned (.agg (bts (leafF e)).toArray) ∧ Below w.heap.size w w' := by
  have hzh := zero_hash
  have h0l : (bts hash0).length = 32 := by rw [bts_len, hash0_len]
  obtain ⟨k, v⟩ := e
  simp only at he1 he2
  obtain ⟨J, hJ⟩ : ∃ J, digF (0 :: [lenB k ++ k.data.toList, v.data.toList].flatten) = J := ⟨_, rfl⟩
  have hJl : J.length = 32 := by rw [← hJ, digF_len]
  have hbl : (bts J).length = 32 := by rw [bts_len, hJl]
  have HJJ : Hid (leafF (k, v) = J) := Lib.hid (by rw [← hJ, leafF]; simp)
  have HJ := Lib.hid hJ
  clear hJ
  go_enter Tryd.func42, Tryd.ntmps42
  go_upto_region 1 with fail
  have B2 : Below w.heap.size w ((w.alloc (.cells #[.string k, .string v] 31)).alloc (.cells (bts hash0).toArray 26)) := (by (first | assumption | (repeat (first | exact Below.refl _ _ | assumption | apply Below.drew | apply below_drewN | (refine Below.setCell ?_ (by (try simp) <;> omega) _) | (refine Below.alloc ?_ (by (try simp) <;> omega) _)))))
  have K0 := (Bk.new w 31 #[.string k, .string v]).alloc (.cells (bts hash0).toArray 26)
  have K1 := Bk.new (w.alloc (.cells #[.string k, .string v] 31)) 26 (bts hash0).toArray
  obtain ⟨ga, hga⟩ : ∃ n, w.heap.size = n := ⟨_, rfl⟩
  obtain ⟨w2, hw2⟩ : ∃ W, (w.alloc (.cells #[.string k, .string v] 31)).alloc (.cells (bts hash0).toArray 26) = W := ⟨_, rfl⟩
  rw [show (w.alloc (.cells #[.string k, .string v] 31)).heap.size = ga + 1 by rw [← hga]; simp] at K1
  rw [hw2] at B2 K0 K1 ⊢
  rw [hga] at K0 ⊢
  have HGA := Lib.hid hga
  have HW : Hid (∀ W, Below w2.drew.heap.size w2.drew W → W.cell? ⟨ga, 0, none⟩ = some (.string k) ∧ W.cell? ⟨ga, 1, none⟩ = some (.string v) ∧ Bk W (ga + 1) 26 (bts hash0).toArray ∧ Below w.heap.size w W) := Lib.hid (fun W h =>
    have hd : Below w2.heap.size w2 w2.drew := (Below.refl _ _).drew
    ⟨(K0.drew.below h K0.drew.lt).cell 0, (K0.drew.below h K0.drew.lt).cell 1, K1.drew.below h K1.drew.lt, (B2.trans (hd.mono B2.size)).trans (h.mono (B2.trans (hd.mono B2.size)).size)⟩)
  clear hw2 K0 K1 B2 hga
  refine wp_region_each_tail 8 (lstV [fun x _ => x = .pointer (some ⟨ga, 0, none⟩), fun x _ => x = .string k, PartAt (lenB k ++ k.data.toList), fun x _ => x = .pointer (some ⟨ga, 1, none⟩), fun x _ => x = .string v, PartAt v.data.toList, PartsAt [lenB k ++ k.data.toList, v.data.toList], fun x _ => x = .agg (bts J).toArray]) (by kernel_rfl) (by kernel_rfl) (lstV_on (by repeat' (first | exact forall_nil | refine forall_cons ?_ ?_ | exact stays_two _ _ _ | exact stays_eq _ | exact stays_part _ | exact stays_parts _))) ?turns ?fin
  case turns =>
    refine ⟨fun a W pre => ?_, fun a W pre => ?_, fun a W pre => ?_, fun a W pre => ?_, fun a W pre => ?_, fun a W pre => ?_, fun a W pre => ?_, fun a W pre => ?_, trivial⟩
    · (refine .inl ?_; have q0 : a.eval (.tmp 1) = .pointer (some ⟨ga, 0, none⟩) := pre.was 1 (by kernel_rfl) rfl; rw [Act.eval, Array.getD_eq_getD_getElem?] at q0; exact does_val (want_none rfl) (by go_simp) rfl)
    · have c0 := (HW.out W pre.b).1
      (refine .inl ?_; have q0 : a.eval (.tmp 3) = .pointer (some ⟨ga, 0, none⟩) := pre.val 0 3 (by kernel_rfl) (by kernel_rfl); rw [Act.eval, Array.getD_eq_getD_getElem?] at q0; exact does_val (want_none rfl) (by go_simp) rfl)
    · refine .inl ?_
      have q0 : a.eval (.tmp 4) = .string k := pre.val 1 4 (by kernel_rfl) (by kernel_rfl)
      rw [Act.eval, Array.getD_eq_getD_getElem?] at q0
      refine does_callx (want_none rfl) (by go_simp) ((mtext_any k he1 W).mono fun e W' h => ?_)
      obtain ⟨x, rfl, h1, h2⟩ := h
      exact ⟨x, rfl, own8_part h1, h2⟩
    · (refine .inl ?_; have q0 : a.eval (.tmp 1) = .pointer (some ⟨ga, 0, none⟩) := pre.was 1 (by kernel_rfl) rfl; rw [Act.eval, Array.getD_eq_getD_getElem?] at q0; exact does_val (want_none rfl) (by go_simp) rfl)
    · have c0 := (HW.out W pre.b).2.1
      (refine .inl ?_; have q0 : a.eval (.tmp 6) = .pointer (some ⟨ga, 1, none⟩) := pre.val 3 6 (by kernel_rfl) (by kernel_rfl); rw [Act.eval, Array.getD_eq_getD_getElem?] at q0; exact does_val (want_none rfl) (by go_simp) rfl)
    · refine .inl ?_
      have q0 : a.eval (.tmp 7) = .string v := pre.val 4 7 (by kernel_rfl) (by kernel_rfl)
      obtain ⟨c, W', hc, h1, h2, h3, h4⟩ := conv_sb W v v.size rfl (by unfold maxLen; omega)
      have hl : v.data.toList.length = v.size := by rw [Array.length_toList]; rfl
      exact does_new (want_none rfl) (run_cv _ rfl q0 hc) h3 ⟨_, c, by rw [hl], ⟨by rw [hl]; exact h1, h2, by rw [hl]; exact h4⟩⟩
    · refine .inl ?_
      obtain ⟨A1, c1, e1, g1⟩ : PartAt _ (a.eval (.tmp 5)) W := pre.val 2 5 (by kernel_rfl) (by kernel_rfl)
      obtain ⟨A2, c2, e2, g2⟩ : PartAt _ (a.eval (.tmp 8)) W := pre.val 5 8 (by kernel_rfl) (by kernel_rfl)
      obtain ⟨n1, hn1⟩ : ∃ n, (lenB k ++ k.data.toList).length = n := ⟨_, rfl⟩
      obtain ⟨n2, hn2⟩ : ∃ n, v.data.toList.length = n := ⟨_, rfl⟩
      have q0 := e1
      have q1 := e2
      rw [hn1] at q0
      rw [hn2] at q1
      rw [Act.eval, Array.getD_eq_getD_getElem?] at q0 q1
      have hb_ : Below W.heap.size W (W.alloc (.cells #[.slice A1 n1 c1, .slice A2 n2 c2] 59)) := (by (first | assumption | (repeat (first | exact Below.refl _ _ | assumption | apply Below.drew | apply below_drewN | (refine Below.setCell ?_ (by (try simp) <;> omega) _) | (refine Below.alloc ?_ (by (try simp) <;> omega) _)))))
      have hp := parts_built (W := W) (l := [(A1, c1, lenB k ++ k.data.toList), (A2, c2, v.data.toList)]) (cs := [.slice A1 n1 c1, .slice A2 n2 c2]) (fun p hp => by
        rcases List.mem_cons.1 hp with rfl | hp
        · exact g1
        · rw [List.mem_singleton] at hp; subst hp; exact g2) (by simp only [List.map_cons, List.map_nil, slv, hn1, hn2]) rfl
      clear hn1 hn2
      exact does_new (want_none rfl) (by go_simp) hb_ hp
    · refine .inl ?_
      have hv : PartsAt _ (a.eval (.tmp 9)) W := pre.val 6 9 (by kernel_rfl) (by kernel_rfl)
      obtain ⟨x, hx⟩ : ∃ x, a.eval (.tmp 9) = x := ⟨_, rfl⟩
      have q0 := hx
      rw [hx] at hv
      rw [Act.eval, Array.getD_eq_getD_getElem?] at q0
      have hj := rjoin_parts 0 _ x W hv (by simp) (by
        have h1 : k.data.toList.length = k.size := by rw [Array.length_toList]; rfl
        have h2 : v.data.toList.length = v.size := by rw [Array.length_toList]; rfl
        simp only [List.flatten_cons, List.flatten_nil, List.length_append, List.length_nil, lenB_len, h1, h2]
        omega)
      rw [HJ.out] at hj
      have hj' : Calls Tryd.prog 59 #[.int .u8 0, x] W _ := hj
      exact does_call (want_none rfl) (by go_simp) hj' (fun _ => rfl)
  case fin =>
    intro a W hbW hsz2 hd hv ho
    have qs : a.eval (.tmp 10) = .agg (bts J).toArray := hv 7 10 (by decide) (by kernel_rfl)
    have q4 : a.eval (.tmp 2) = .pointer (some ⟨ga + 1, 0, none⟩) := ho 2 (no_dst (by kernel_rfl))
    have hs8 : a.tmps.size = 11 := by rw [hsz2]; rfl
    obtain ⟨_, _, hbk, hbw⟩ := HW.out W hbW
    simp only [List.drop_succ_cons, List.drop_zero]
    refine wpList_puts (want_none rfl) 26 _ _ rfl (ga + 1) 0 q4 (bts J) qs 26 (bts hash0) hbk 32 hbl (by rw [h0l]; omega) hi_hash bts_all ?_
    intro w7 hb7 hm7 hz7
    rw [put_hash0 _ hJl] at hb7
    have HB7 := Lib.hid hb7
    have HM7 := Lib.hid hm7
    have HBW := Lib.hid hbw
    have p4 := q4
    rw [Act.eval] at p4
    have P4 := Lib.hid p4
    clear hb7 hm7 hbw hbk qs q4 p4 hbW hv ho
    go_wp2_with fail
    refine bodyPost_ret (results_cell_row rfl _ _ (ga + 1) 26 (bts J).toArray (0, 0) _ (by exact P4.out) HB7.out Tryd.underlying26 rfl (by rw [hi_hash]; simp [hbl])) (by exact hd) ?_
    refine ⟨by rw [HJJ.out], HBW.out.trans (HM7.out.to_below HBW.out.size (fun k o e => ?_))⟩
    rw [e, HGA.out]
    omega
end Go.Proofs.YtdeikpifflkabaaDoor

namespace Go.Proofs.YtdeikpifflkabaaDoor
open Go.RowKit
set_option linter.unusedVariables false
set_option linter.unusedSimpArgs false

attribute [local irreducible] digF
set_option maxRecDepth 100000 in
set_option maxHeartbeats 4000000 in
theorem rtwo_any (x y : List UInt8) (hx : x.length = 32) (hy : y.length = 32) (w : World) :
    Calls Tryd.prog 53 #[.agg (bts x).toArray, .agg (bts y).toArray] w fun e w' => e = .returned (.agg (bts (pairF x y)).toArray) ∧ Below w.heap.size w w' := by
  have hzh := zero_hash
  have h0l : (bts hash0).length = 32 := by rw [bts_len, hash0_len]
  have hxl : (bts x).length = 32 := by rw [bts_len, hx]
  have hyl : (bts y).length = 32 := by rw [bts_len, hy]
  obtain ⟨J, hJ⟩ : ∃ J, digF (1 :: [x, y].flatten) = J := ⟨_, rfl⟩
  have hJl : J.length = 32 := by rw [← hJ, digF_len]
  have hbl : (bts J).length = 32 := by rw [bts_len, hJl]
  have HJJ : Hid (pairF x y = J) := Lib.hid (by rw [← hJ, pairF]; simp)
  have HJ := Lib.hid hJ
  clear hJ
  go_enter Tryd.func53, Tryd.ntmps53
  go_upto_region 1 with fail
  have K0 := (Bk.new w 26 (bts x).toArray)
  obtain ⟨ga, hga⟩ : ∃ n, w.heap.size = n := ⟨_, rfl⟩
  have B1 : Below w.heap.size w (w.alloc (.cells (bts x).toArray 26)) := (by (first | assumption | (repeat (first | exact Below.refl _ _ | assumption | apply Below.drew | apply below_drewN | (refine Below.setCell ?_ (by (try simp) <;> omega) _) | (refine Below.alloc ?_ (by (try simp) <;> omega) _)))))
  obtain ⟨w1, hw1⟩ : ∃ W, w.alloc (.cells (bts x).toArray 26) = W := ⟨_, rfl⟩
  have z1 : w1.heap.size = ga + 1 := by rw [← hw1, ← hga]; simp
  rw [hw1] at K0 B1 ⊢
  rw [hga] at K0 ⊢
  have K1 := (Bk.new w1 26 (bts y).toArray)
  have B2 : Below w1.heap.size w1 (w1.alloc (.cells (bts y).toArray 26)) := (by (first | assumption | (repeat (first | exact Below.refl _ _ | assumption | apply Below.drew | apply below_drewN | (refine Below.setCell ?_ (by (try simp) <;> omega) _) | (refine Below.alloc ?_ (by (try simp) <;> omega) _)))))
  obtain ⟨w2, hw2⟩ : ∃ W, w1.alloc (.cells (bts y).toArray 26) = W := ⟨_, rfl⟩
  have z2 : w2.heap.size = ga + 2 := by rw [← hw2]; simp [z1]
  rw [hw2] at K1 B2 ⊢
  rw [z1] at K1
  have K2 := (Bk.new w2 26 (bts hash0).toArray)
  have B3 : Below w2.heap.size w2 (w2.alloc (.cells (bts hash0).toArray 26)) := (by (first | assumption | (repeat (first | exact Below.refl _ _ | assumption | apply Below.drew | apply below_drewN | (refine Below.setCell ?_ (by (try simp) <;> omega) _) | (refine Below.alloc ?_ (by (try simp) <;> omega) _)))))
  obtain ⟨w3, hw3⟩ : ∃ W, w2.alloc (.cells (bts hash0).toArray 26) = W := ⟨_, rfl⟩
  have z3 : w3.heap.size = ga + 3 := by rw [← hw3]; simp [z2]
  rw [hw3] at K2 B3 ⊢
  rw [z2] at K2
  have B03 : Below w.heap.size w w3 := (B1.trans (B2.mono B1.size)).trans (B3.mono (by omega))
  have A0 := (K0.below B2 (by omega)).below B3 (by omega)
  have A1 := K1.below B3 (by omega)
  have HW : Hid (∀ W, Below w3.drew.heap.size w3.drew W → Bk W ga 26 (bts x).toArray ∧ Bk W (ga + 1) 26 (bts y).toArray ∧ Bk W (ga + 2) 26 (bts hash0).toArray ∧ Below w.heap.size w W) := Lib.hid (fun W h =>
    have hd : Below w3.heap.size w3 w3.drew := (Below.refl _ _).drew
    ⟨A0.drew.below h A0.drew.lt, A1.drew.below h A1.drew.lt, K2.drew.below h K2.drew.lt, (B03.trans (hd.mono B03.size)).trans (h.mono (B03.trans (hd.mono B03.size)).size)⟩)
  have HGA := Lib.hid hga
  clear hw1 hw2 hw3 K0 K1 K2 A0 A1 B1 B2 B3 B03 z1 z2 hga
  refine wp_region_each_tail 6 (lstV [fun v _ => v = .agg (bts x).toArray, PartAt x, fun v _ => v = .agg (bts y).toArray, PartAt y, PartsAt [x, y], fun v _ => v = .agg (bts J).toArray]) (by kernel_rfl) (by kernel_rfl) (lstV_on (by repeat' (first | exact forall_nil | refine forall_cons ?_ ?_ | exact stays_two _ _ _ | exact stays_eq _ | exact stays_part _ | exact stays_parts _))) ?turns ?fin
  case turns =>
    refine ⟨fun a W pre => ?_, fun a W pre => ?_, fun a W pre => ?_, fun a W pre => ?_, fun a W pre => ?_, fun a W pre => ?_, trivial⟩
    · refine .inl ?_
      have q0 : a.eval (.tmp 2) = .pointer (some ⟨ga, 0, none⟩) := pre.was 2 (by kernel_rfl) rfl
      have hb := (HW.out W pre.b).1
      exact does_val (want_none rfl) (run_load_seg 26 _ rfl ga 0 q0 _ hb.all 32 hxl _ Tryd.underlying26 rfl hi_hash) rfl
    · refine .inl ?_
      have q0 : a.eval (.tmp 5) = .agg (bts x).toArray := pre.val 0 5 (by kernel_rfl) (by kernel_rfl)
      rw [Act.eval, Array.getD_eq_getD_getElem?] at q0
      refine does_callx (want_none rfl) (by go_simp) ((mhash_any x hx W).mono fun e W' h => ?_)
      obtain ⟨v, rfl, h1, h2⟩ := h
      exact ⟨v, rfl, own8_part h1, h2⟩
    · refine .inl ?_
      have q0 : a.eval (.tmp 3) = .pointer (some ⟨ga + 1, 0, none⟩) := pre.was 3 (by kernel_rfl) rfl
      have hb := (HW.out W pre.b).2.1
      exact does_val (want_none rfl) (run_load_seg 26 _ rfl (ga + 1) 0 q0 _ hb.all 32 hyl _ Tryd.underlying26 rfl hi_hash) rfl
    · refine .inl ?_
      have q0 : a.eval (.tmp 7) = .agg (bts y).toArray := pre.val 2 7 (by kernel_rfl) (by kernel_rfl)
      rw [Act.eval, Array.getD_eq_getD_getElem?] at q0
      refine does_callx (want_none rfl) (by go_simp) ((mhash_any y hy W).mono fun e W' h => ?_)
      obtain ⟨v, rfl, h1, h2⟩ := h
      exact ⟨v, rfl, own8_part h1, h2⟩
    · refine .inl ?_
      obtain ⟨A1, c1, e1, g1⟩ : PartAt _ (a.eval (.tmp 6)) W := pre.val 1 6 (by kernel_rfl) (by kernel_rfl)
      obtain ⟨A2, c2, e2, g2⟩ : PartAt _ (a.eval (.tmp 8)) W := pre.val 3 8 (by kernel_rfl) (by kernel_rfl)
      have q0 := e1
      have q1 := e2
      rw [hx] at q0
      rw [hy] at q1
      rw [Act.eval, Array.getD_eq_getD_getElem?] at q0 q1
      have hb_ : Below W.heap.size W (W.alloc (.cells #[.slice A1 32 c1, .slice A2 32 c2] 59)) := (by (first | assumption | (repeat (first | exact Below.refl _ _ | assumption | apply Below.drew | apply below_drewN | (refine Below.setCell ?_ (by (try simp) <;> omega) _) | (refine Below.alloc ?_ (by (try simp) <;> omega) _)))))
      have hp := parts_built (W := W) (l := [(A1, c1, x), (A2, c2, y)]) (cs := [.slice A1 32 c1, .slice A2 32 c2]) (fun p hp => by
        rcases List.mem_cons.1 hp with rfl | hp
        · exact g1
        · rw [List.mem_singleton] at hp; subst hp; exact g2) (by simp only [List.map_cons, List.map_nil, slv, hx, hy]) rfl
      exact does_new (want_none rfl) (by go_simp) hb_ hp
    · refine .inl ?_
      have hv : PartsAt _ (a.eval (.tmp 9)) W := pre.val 4 9 (by kernel_rfl) (by kernel_rfl)
      obtain ⟨v, hx'⟩ : ∃ v, a.eval (.tmp 9) = v := ⟨_, rfl⟩
      have q0 := hx'
      rw [hx'] at hv
      rw [Act.eval, Array.getD_eq_getD_getElem?] at q0
      have hj := rjoin_parts 1 _ v W hv (by simp) (by simp [hx, hy])
      rw [HJ.out] at hj
      have hj' : Calls Tryd.prog 59 #[.int .u8 1, v] W _ := hj
      exact does_call (want_none rfl) (by go_simp) hj' (fun _ => rfl)
  case fin =>
    intro a W hbW hsz2 hd hv ho
    have qs : a.eval (.tmp 10) = .agg (bts J).toArray := hv 5 10 (by decide) (by kernel_rfl)
    have q4 : a.eval (.tmp 4) = .pointer (some ⟨ga + 2, 0, none⟩) := ho 4 (no_dst (by kernel_rfl))
    have hs8 : a.tmps.size = 11 := by rw [hsz2]; rfl
    obtain ⟨_, _, hbk, hbw⟩ := HW.out W hbW
    simp only [List.drop_succ_cons, List.drop_zero]
    refine wpList_puts (want_none rfl) 26 _ _ rfl (ga + 2) 0 q4 (bts J) qs 26 (bts hash0) hbk 32 hbl (by rw [h0l]; omega) hi_hash bts_all ?_
    intro w7 hb7 hm7 hz7
    rw [put_hash0 _ hJl] at hb7
    have HB7 := Lib.hid hb7
    have HM7 := Lib.hid hm7
    have HBW := Lib.hid hbw
    have p4 := q4
    rw [Act.eval] at p4
    have P4 := Lib.hid p4
    clear hb7 hm7 hbw hbk qs q4 p4 hbW hv ho
    go_wp2_with fail
    refine bodyPost_ret (results_cell_row rfl _ _ (ga + 2) 26 (bts J).toArray (0, 0) _ (by exact P4.out) HB7.out Tryd.underlying26 rfl (by rw [hi_hash]; simp [hbl])) (by exact hd) ?_
    refine ⟨by rw [HJJ.out], HBW.out.trans (HM7.out.to_below HBW.out.size (fun k o e => ?_))⟩
    rw [e, HGA.out]
    omega
end Go.Proofs.YtdeikpifflkabaaDoor

namespace Go.Proofs.YtdeikpifflkabaaDoor
open Go.RowKit
set_option linter.unusedVariables false
set_option linter.unusedSimpArgs false

theorem rootE_two' {l : List Ent} {k : Nat} (h : 2 ≤ l.length) (hk : splitN l.length = k) : pairF (rootE (l.take k)) (rootE (l.drop k)) = rootE l := by
  rw [rootE_two h, hk]
theorem rootE_nil : rootE [] = digF [] := by rw [rootE_top]; rfl
theorem rootE_one (e : Ent) : rootE [e] = leafF e := by rw [rootE_top]; rfl
theorem edrop_at {w : World} {B b off : Nat} {l : List Ent} {k cap : Nat} (h : Sl w B 2 (some ⟨b, off, none⟩) l.length (eCells l)) (hk : k < l.length) (hc : l.length ≤ cap) (h0 : 0 < k) : Sl w B 2 (some ⟨b, off + k * 2, none⟩) (l.drop k).length (eCells (l.drop k)) := by
  have hs := h.edrop (cap := cap) hk hc
  have e : (some (⟨b, off, none⟩ : Addr)).map (·.add (k * 2)) = some ⟨b, off + k * 2, none⟩ := by
    simp only [Option.map_some, Addr.add]
    split
    · rename_i h0; omega
    · rfl
  rwa [e] at hs
attribute [local irreducible] digF
set_option maxRecDepth 100000 in
set_option maxHeartbeats 4000000 in
theorem mroot_any : ∀ (n : Nat) (l : List Ent) (A : Option Addr) (c : Nat) (w : World), l.length = n → n ≤ 70 → n ≤ c → c ≤ maxLen → Fits l → Sl w w.heap.size 2 A l.length (eCells l) →
    Calls Tryd.prog 32 #[.slice A n c] w fun e w' => e = .returned (.agg (bts (rootE l)).toArray) ∧ Below w.heap.size w w' := by
  intro n
  induction n using Nat.strongRecOn with
  | _ n ih =>
  intro l A c w hn h70 hc hcm hf hA
  have hzh := zero_hash
  have h0l : (bts hash0).length = 32 := by rw [bts_len, hash0_len]
  have HA := Lib.hid hA
  have HF := Lib.hid hf
  have IH := Lib.hid ih
  clear hA hf ih
  unfold maxLen at hcm
  by_cases hn0 : n = 0
  · obtain rfl := hn0
    obtain rfl : l = [] := List.eq_nil_of_length_eq_zero hn
    obtain ⟨J, hJ⟩ : ∃ J, digF [] = J := ⟨_, rfl⟩
    have hJl : J.length = 32 := by rw [← hJ, digF_len]
    have hbl : (bts J).length = 32 := by rw [bts_len, hJl]
    have HJ : Hid (rootE [] = J) := Lib.hid (by rw [rootE_nil, hJ])
    obtain ⟨go, hgo⟩ : ∃ g, w.heap.size = g := ⟨_, rfl⟩
    have HGO := Lib.hid hgo
    go_enter Tryd.func32, Tryd.ntmps32
    go_upto_region 3 with fail
    have K1 := Lib.hid (Bk.new w 26 (bts hash0).toArray)
    have L1 : Hid (Below w.heap.size w (w.alloc (.cells (bts hash0).toArray 26))) := Lib.hid (by (first | assumption | (repeat (first | exact Below.refl _ _ | assumption | apply Below.drew | apply below_drewN | (refine Below.setCell ?_ (by (try simp) <;> omega) _) | (refine Below.alloc ?_ (by (try simp) <;> omega) _)))))
    obtain ⟨w1, hw1⟩ : ∃ W, w.alloc (.cells (bts hash0).toArray 26) = W := ⟨_, rfl⟩
    rw [hw1] at K1 L1 ⊢
    rw [hgo] at K1
    clear hw1 hgo
    have hc0 : Calls Tryd.prog 28 #[.slice none 0 0] w1 _ := rsum_any none [] 0 w1 (by simp) (by simp) (Sl.nil _ _ _ _)
    have HC := Lib.hid hc0
    clear hc0
    go_wp2_with fail
    with_reducible refine HC.out.mono ?_
    rintro e w2 ⟨rfl, hb2⟩
    have OB := Lib.hid (K1.out.below hb2 K1.out.lt)
    have L2 := Lib.hid (L1.out.trans (hb2.mono L1.out.size))
    rw [hJ]
    clear hb2 hJ HC K1 L1
    go_wp2_with (refine wpList_puts (by rfl) 26 _ _ (by with_reducible rfl) go 0 (by rfl) (bts J) (by rfl) 26 (bts hash0) (by exact OB.out) 32 hbl (by rw [h0l]; omega) hi_hash bts_all ?_; intro w9 hb_ hm_ hz_; rw [put_hash0 _ hJl] at hb_; have HM9 := Lib.hid hm_; have HR9 := Lib.hid hb_; clear hb_ hm_ hz_)
    refine bodyPost_ret (results_cell_row rfl _ _ go 26 (bts J).toArray (0, 0) _ (by rfl) HR9.out Tryd.underlying26 rfl (by rw [hi_hash]; simp [hbl])) rfl ?_
    exact ⟨by rw [HJ.out], L2.out.trans (HM9.out.to_below L2.out.size (fun k _ e => by rw [e, HGO.out]; exact Nat.le_refl _))⟩
  by_cases hn1 : n = 1
  · obtain rfl := hn1
    obtain ⟨b, off, ka, va, rfl, hb, hca, hcv, hla⟩ := HA.out.ent (k := 0) (by omega)
    have hfit := HF.out _ (List.mem_of_getElem? hla)
    simp only at hfit
    have hlc := rleaf_any (ka, va) (by simp only; omega) (by simp only; omega)
    obtain ⟨J, hJ⟩ : ∃ J, leafF (ka, va) = J := ⟨_, rfl⟩
    have hJl : J.length = 32 := by rw [← hJ, leafF_len]
    have hbl : (bts J).length = 32 := by rw [bts_len, hJl]
    have HJ : Hid (rootE l = J) := Lib.hid (by
      match l, hn, hla with
      | [x], _, hla => simp at hla; subst hla; rw [rootE_one, hJ])
    simp only [Nat.zero_mul, Nat.add_zero] at hca hcv
    have HLC := Lib.hid hlc
    obtain ⟨go, hgo⟩ : ∃ g, w.heap.size = g := ⟨_, rfl⟩
    have HGO := Lib.hid hgo
    clear hla hfit hlc
    go_enter Tryd.func32, Tryd.ntmps32
    go_upto_region 5 with fail
    have K1 := Lib.hid (Bk.new w 26 (bts hash0).toArray)
    have L1 : Hid (Below w.heap.size w (w.alloc (.cells (bts hash0).toArray 26))) := Lib.hid (by (first | assumption | (repeat (first | exact Below.refl _ _ | assumption | apply Below.drew | apply below_drewN | (refine Below.setCell ?_ (by (try simp) <;> omega) _) | (refine Below.alloc ?_ (by (try simp) <;> omega) _)))))
    obtain ⟨w1, hw1⟩ : ∃ W, w.alloc (.cells (bts hash0).toArray 26) = W := ⟨_, rfl⟩
    rw [hw1] at K1 L1 ⊢
    rw [hgo] at K1
    have x0 := (L1.out.cell (p := ⟨b, off, none⟩) hb).trans hca
    have x1 := (L1.out.cell (p := ⟨b, off + 1, none⟩) hb).trans hcv
    clear hw1 hgo hca hcv
    go_wp2_with fail
    with_reducible refine (HLC.out w1).mono ?_
    rintro e w2 ⟨rfl, hb2⟩
    have OB := Lib.hid (K1.out.below hb2 K1.out.lt)
    have L2 := Lib.hid (L1.out.trans (hb2.mono L1.out.size))
    rw [hJ]
    clear hb2 hJ HLC K1 L1 x0 x1
    go_wp2_with (refine wpList_puts (by rfl) 26 _ _ (by with_reducible rfl) go 0 (by rfl) (bts J) (by rfl) 26 (bts hash0) (by exact OB.out) 32 hbl (by rw [h0l]; omega) hi_hash bts_all ?_; intro w9 hb_ hm_ hz_; rw [put_hash0 _ hJl] at hb_; have HM9 := Lib.hid hm_; have HR9 := Lib.hid hb_; clear hb_ hm_ hz_)
    refine bodyPost_ret (results_cell_row rfl _ _ go 26 (bts J).toArray (0, 0) _ (by rfl) HR9.out Tryd.underlying26 rfl (by rw [hi_hash]; simp [hbl])) rfl ?_
    exact ⟨by rw [HJ.out], L2.out.trans (HM9.out.to_below L2.out.size (fun k _ e => by rw [e, HGO.out]; exact Nat.le_refl _))⟩
  · have h2 : 2 ≤ l.length := by omega
    obtain ⟨J, hJ⟩ : ∃ J, rootE l = J := ⟨_, rfl⟩
    have hJl : J.length = 32 := by rw [← hJ]; exact rootE_len l
    have hbl : (bts J).length = 32 := by rw [bts_len, hJl]
    obtain ⟨k, hk⟩ : ∃ k, splitN l.length = k := ⟨_, rfl⟩
    have hkn := splitN_lt h2
    have hk1 := splitN_pos l.length
    have HP := Lib.hid (rootE_two' h2 hk)
    rw [hJ] at HP
    rw [hk] at hkn hk1
    have hsp := rsplit_any n (by omega) (by omega)
    rw [← hn, hk] at hsp
    rw [hn] at hsp hkn
    have HSP := Lib.hid hsp
    have HJ := Lib.hid hJ
    have ha : (rootE (l.take k)).length = 32 := rootE_len _
    have hb : (rootE (l.drop k)).length = 32 := rootE_len _
    have hlt : (l.take k).length = k := by rw [List.length_take]; omega
    have hld : (l.drop k).length = n - k := by rw [List.length_drop]; omega
    have HT := Lib.hid (show ∀ W, Below w.heap.size w W → Calls Tryd.prog 32 #[.slice A k c] W fun e w' => e = .returned (.agg (bts (rootE (l.take k))).toArray) ∧ Below W.heap.size W w' from fun W hb =>
      IH.out k hkn (l.take k) A c W hlt (by omega) (by omega) (by unfold maxLen; omega) (HF.out.take k) (((HA.out.etake (by omega)).below hb).more hb.size))
    obtain ⟨b, off, rfl, hbb, _⟩ := HA.out.2 (by omega)
    have HD := Lib.hid (show ∀ W, Below w.heap.size w W → Calls Tryd.prog 32 #[.slice (some ⟨b, off + k * 2, none⟩) ((n : Int) - (k : Int)).toNat ((c : Int) - (k : Int)).toNat] W fun e w' => e = .returned (.agg (bts (rootE (l.drop k))).toArray) ∧ Below W.heap.size W w' from fun W hb => by
      rw [show ((n : Int) - (k : Int)).toNat = n - k by omega, show ((c : Int) - (k : Int)).toNat = c - k by omega]
      have hs := edrop_at HA.out (cap := c) (k := k) (by omega) (by omega) hk1
      exact IH.out (n - k) (by omega) (l.drop k) _ (c - k) W hld (by omega) (by omega) (by unfold maxLen; omega) (HF.out.drop k) ((hs.below hb).more hb.size))
    obtain ⟨go, hgo⟩ : ∃ g, w.heap.size = g := ⟨_, rfl⟩
    have HGO := Lib.hid hgo
    clear hsp hJ hlt hld hk
    go_enter Tryd.func32, Tryd.ntmps32
    go_upto_region 7 with (go_at_call 30; with_reducible refine (HSP.out _).mono ?_; rintro e w1 ⟨rfl, rfl⟩)
    have K1 := Bk.new w 26 (bts hash0).toArray
    have L1 : Below w.heap.size w (w.alloc (.cells (bts hash0).toArray 26)) := (by (first | assumption | (repeat (first | exact Below.refl _ _ | assumption | apply Below.drew | apply below_drewN | (refine Below.setCell ?_ (by (try simp) <;> omega) _) | (refine Below.alloc ?_ (by (try simp) <;> omega) _)))))
    obtain ⟨w1, hw1⟩ : ∃ W, w.alloc (.cells (bts hash0).toArray 26) = W := ⟨_, rfl⟩
    rw [hw1] at K1 L1 ⊢
    rw [hgo] at K1
    have HW : Hid (∀ W, Below w1.drew.heap.size w1.drew W → Bk W go 26 (bts hash0).toArray ∧ Below w.heap.size w W) := Lib.hid (fun W h =>
      have hd : Below w1.heap.size w1 w1.drew := (Below.refl _ _).drew
      ⟨K1.drew.below h K1.drew.lt, (L1.trans (hd.mono L1.size)).trans (h.mono (L1.trans (hd.mono L1.size)).size)⟩)
    clear hw1 K1 L1 hgo
    refine wp_region_each_tail 9 (lstV [fun v _ => v = .slice (some ⟨b, off, none⟩) n c, fun v _ => v = .int .i64 (k : Int), fun v _ => v = .slice (some ⟨b, off, none⟩) k c, fun v _ => v = .agg (bts (rootE (l.take k))).toArray, fun v _ => v = .slice (some ⟨b, off, none⟩) n c, fun v _ => v = .int .i64 (k : Int), fun v _ => v = .slice (some ⟨b, off + k * 2, none⟩) ((n : Int) - (k : Int)).toNat ((c : Int) - (k : Int)).toNat, fun v _ => v = .agg (bts (rootE (l.drop k))).toArray, fun v _ => v = .agg (bts J).toArray]) (by kernel_rfl) (by kernel_rfl) (lstV_on (by repeat' (first | exact forall_nil | refine forall_cons ?_ ?_ | exact stays_two _ _ _ | exact stays_eq _ | exact stays_part _ | exact stays_parts _))) ?turns ?fin
    case turns =>
      refine ⟨fun a W pre => ?_, fun a W pre => ?_, fun a W pre => ?_, fun a W pre => ?_, fun a W pre => ?_, fun a W pre => ?_, fun a W pre => ?_, fun a W pre => ?_, fun a W pre => ?_, trivial⟩
      · (refine .inl ?_; have q0 : a.eval (.tmp 0) = .slice (some ⟨b, off, none⟩) n c := pre.was 0 (by kernel_rfl) rfl; rw [Act.eval, Array.getD_eq_getD_getElem?] at q0; exact does_val (want_none rfl) (by go_simp) rfl)
      · (refine .inl ?_; have q0 : a.eval (.tmp 3) = .int .i64 (k : Int) := pre.was 3 (by kernel_rfl) rfl; rw [Act.eval, Array.getD_eq_getD_getElem?] at q0; exact does_val (want_none rfl) (by go_simp) rfl)
      · have hkc : k ≤ c := by omega
        (refine .inl ?_; have q0 : a.eval (.tmp 18) = .slice (some ⟨b, off, none⟩) n c := pre.val 0 18 (by kernel_rfl) (by kernel_rfl); have q1 : a.eval (.tmp 19) = .int .i64 (k : Int) := pre.val 1 19 (by kernel_rfl) (by kernel_rfl); rw [Act.eval, Array.getD_eq_getD_getElem?] at q0 q1; exact does_val (want_none rfl) (by go_simp) rfl)
      · (refine .inl ?_; have q0 : a.eval (.tmp 20) = .slice (some ⟨b, off, none⟩) k c := pre.val 2 20 (by kernel_rfl) (by kernel_rfl); rw [Act.eval, Array.getD_eq_getD_getElem?] at q0; exact does_call (want_none rfl) (by go_simp) (HT.out W (HW.out W pre.b).2) (fun _ => rfl))
      · (refine .inl ?_; have q0 : a.eval (.tmp 0) = .slice (some ⟨b, off, none⟩) n c := pre.was 0 (by kernel_rfl) rfl; rw [Act.eval, Array.getD_eq_getD_getElem?] at q0; exact does_val (want_none rfl) (by go_simp) rfl)
      · (refine .inl ?_; have q0 : a.eval (.tmp 3) = .int .i64 (k : Int) := pre.was 3 (by kernel_rfl) rfl; rw [Act.eval, Array.getD_eq_getD_getElem?] at q0; exact does_val (want_none rfl) (by go_simp) rfl)
      · have hkn' : (k : Int) ≤ (n : Int) := by omega
        have hkc : ¬ c = k := by omega
        have hk0 : ¬ k = 0 := by omega
        (refine .inl ?_; have q0 : a.eval (.tmp 22) = .slice (some ⟨b, off, none⟩) n c := pre.val 4 22 (by kernel_rfl) (by kernel_rfl); have q1 : a.eval (.tmp 23) = .int .i64 (k : Int) := pre.val 5 23 (by kernel_rfl) (by kernel_rfl); rw [Act.eval, Array.getD_eq_getD_getElem?] at q0 q1; exact does_val (want_none rfl) (by go_simp) rfl)
      · (refine .inl ?_; have q0 : a.eval (.tmp 24) = .slice (some ⟨b, off + k * 2, none⟩) ((n : Int) - (k : Int)).toNat ((c : Int) - (k : Int)).toNat := pre.val 6 24 (by kernel_rfl) (by kernel_rfl); rw [Act.eval, Array.getD_eq_getD_getElem?] at q0; exact does_call (want_none rfl) (by go_simp) (HD.out W (HW.out W pre.b).2) (fun _ => rfl))
      · refine .inl ?_
        have q0 : a.eval (.tmp 21) = .agg (bts (rootE (l.take k))).toArray := pre.val 3 21 (by kernel_rfl) (by kernel_rfl)
        have q1 : a.eval (.tmp 25) = .agg (bts (rootE (l.drop k))).toArray := pre.val 7 25 (by kernel_rfl) (by kernel_rfl)
        rw [Act.eval, Array.getD_eq_getD_getElem?] at q0 q1
        have hp := rtwo_any _ _ ha hb W
        rw [HP.out] at hp
        exact does_call (want_none rfl) (by go_simp) hp (fun _ => rfl)
    case fin =>
      intro a W hbW hsz2 hd hv ho
      have qs : a.eval (.tmp 26) = .agg (bts J).toArray := hv 8 26 (by decide) (by kernel_rfl)
      have q4 : a.eval (.tmp 2) = .pointer (some ⟨go, 0, none⟩) := ho 2 (no_dst (by kernel_rfl))
      have hs8 : a.tmps.size = 27 := by rw [hsz2]; rfl
      obtain ⟨hbk, hbw⟩ := HW.out W hbW
      simp only [List.drop_succ_cons, List.drop_zero]
      refine wpList_puts (want_none rfl) 26 _ _ rfl go 0 q4 (bts J) qs 26 (bts hash0) hbk 32 hbl (by rw [h0l]; omega) hi_hash bts_all ?_
      intro w7 hb7 hm7 hz7
      rw [put_hash0 _ hJl] at hb7
      have HB7 := Lib.hid hb7
      have HM7 := Lib.hid hm7
      have HBW := Lib.hid hbw
      have p4 := q4
      rw [Act.eval] at p4
      have P4 := Lib.hid p4
      clear hb7 hm7 hbw hbk qs q4 p4 hbW hv ho
      go_wp2_with fail
      refine bodyPost_ret (results_cell_row rfl _ _ go 26 (bts J).toArray (0, 0) _ (by exact P4.out) HB7.out Tryd.underlying26 rfl (by rw [hi_hash]; simp [hbl])) (by exact hd) ?_
      refine ⟨by rw [HJ.out], HBW.out.trans (HM7.out.to_below HBW.out.size (fun k o e => ?_))⟩
      rw [e, HGO.out]
      exact Nat.le_refl _
end Go.Proofs.YtdeikpifflkabaaDoor

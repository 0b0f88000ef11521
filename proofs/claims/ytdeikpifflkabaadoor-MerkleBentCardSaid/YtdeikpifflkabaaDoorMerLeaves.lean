/- What this text proves: the hash of two hashes (the contract of merkle.pair). The condition is that the package's table is as its text lays it. an entry's hash (the contract of merkle.leaf). The condition is that the package's table is as its text lays it. the hashes of some entries (the contract of merkle.leaves). The conditions: no more entries, and no longer texts, than are asked about; how they lie in memory; that the package's table is as its text lays it. -/
import Derived.Test.YtdeikpifflkabaaDoorMerPure
import Derived.Test.YtdeikpifflkabaaDoorEachTail
import Derived.Test.YtdeikpifflkabaaDoorAppendSl
namespace Go.Proofs.YtdeikpifflkabaaDoor
open Go.RowKit
set_option linter.unusedVariables false
set_option linter.unusedSimpArgs false

theorem forall_nil {p : (Value → World → Prop) → Prop} : ∀ x ∈ ([] : List (Value → World → Prop)), p x := fun _ h => by cases h
theorem forall_cons {p : (Value → World → Prop) → Prop} {x : Value → World → Prop} {l : List (Value → World → Prop)} (h : p x) (hl : ∀ y ∈ l, p y) : ∀ y ∈ x :: l, p y := by
  intro y hy
  rcases List.mem_cons.1 hy with rfl | hy
  · exact h
  · exact hl y hy
/-- A slice of two slices. -/
def TwoAt (N : Nat) (x y : Value) (v : Value) (W : World) : Prop := ∃ g, v = .slice (some ⟨g, 0, none⟩) 2 2 ∧ N ≤ g ∧ Bk W g 59 #[x, y]
theorem stays_two (N : Nat) (x y : Value) : Remains (TwoAt N x y) := fun _ _ _ ⟨g, h1, h2, h3⟩ hb => ⟨g, h1, h2, h3.below hb h3.lt⟩
theorem TwoAt.sl {N : Nat} {x y v : Value} {W : World} (h : TwoAt N x y v W) : ∃ g, v = .slice (some ⟨g, 0, none⟩) 2 2 ∧ Sl W W.heap.size 1 (some ⟨g, 0, none⟩) 2 [x, y] := by
  obtain ⟨g, h1, _, h3⟩ := h
  exact ⟨g, h1, by simp, fun _ => ⟨g, 0, rfl, h3.lt, fun j u hu => by rw [Nat.zero_add, h3.cell, List.getElem?_toArray]; exact hu⟩⟩
theorem bk_part {W : World} {g : Nat} {t : TypeId} {l : List UInt8} (h : Bk W g t (bts l).toArray) (hl : l.length ≤ maxLen) : Part.good W (some ⟨g, 0, none⟩, l.length, l) :=
  ⟨Nat.le_refl _, hl, by simp [bts_len], fun _ => ⟨g, 0, rfl, h.lt, fun j u hu => by rw [Nat.zero_add, h.cell, List.getElem?_toArray]; exact hu⟩⟩
theorem Part.good.below {w w' : World} {p : Part} (h : p.good w) (hb : Below w.heap.size w w') : p.good w' := ⟨h.1, h.2.1, (h.2.2.below hb).more hb.size⟩
theorem built_sl {w : World} {cs : List Value} {n : Nat} (h : cs.length = n) : Sl (w.alloc (.cells cs.toArray 59)) (w.alloc (.cells cs.toArray 59)).heap.size 1 (some ⟨w.heap.size, 0, none⟩) n cs :=
  ⟨by rw [h]; omega, fun _ => ⟨w.heap.size, 0, rfl, by simp, fun j u hu => by rw [Nat.zero_add, (Bk.new w 59 cs.toArray).cell, List.getElem?_toArray]; exact hu⟩⟩
theorem joinF_two (t : UInt8) (A A' : Option Addr) (c c' : Nat) (a b : List UInt8) : joinF t [(A, c, a), (A', c', b)] = digF (t :: (a ++ b)) := by simp [joinF, catF]

attribute [local irreducible] digF
set_option maxRecDepth 100000 in
set_option maxHeartbeats 4000000 in
theorem pair_any (x y : List UInt8) (hx : x.length = 32) (hy : y.length = 32) (w : World) (hr : Roots w) (h0 : 0 < w.heap.size) :
    Calls Tryd.prog 47 #[.agg (bts x).toArray, .agg (bts y).toArray] w fun e w' => e = .returned (.agg (bts (pairF x y)).toArray) ∧ Below w.heap.size w w' := by
  have hzh := zero_hash
  have h0l : (bts hash0).length = 32 := by rw [bts_len, hash0_len]
  have HR := Lib.hid hr
  clear hr
  go_enter Tryd.func47, Tryd.ntmps47
  go_upto_region 1 with fail
  have K0 := (Bk.new w 26 (bts x).toArray)
  obtain ⟨ga, hga⟩ : ∃ n, w.heap.size = n := ⟨_, rfl⟩
  have B1 : Below w.heap.size w (w.alloc (.cells (bts x).toArray 26)) := (by (first | assumption | (repeat (first | exact Below.refl _ _ | assumption | apply Below.drew | apply below_drewN | (refine Below.setCell ?_ (by (try simp) <;> omega) _) | (refine Below.alloc ?_ (by (try simp) <;> omega) _)))))
  obtain ⟨w1, hw1⟩ : ∃ W, w.alloc (.cells (bts x).toArray 26) = W := ⟨_, rfl⟩
  have z1 : w1.heap.size = ga + 1 := by rw [← hw1, ← hga]; simp
  rw [hw1] at K0 B1 ⊢
  rw [hga] at K0 ⊢
  have K1 := (Bk.new w1 26 (bts y).toArray)
  have B2 : Below w1.heap.size w1 (w1.alloc (.cells (bts y).toArray 26)) := (by (first | assumption | (repeat (first | exact Below.refl _ _ | assumption | apply Below.drew | apply below_drewN | (refine Below.setCell ?_ (by (try simp) <;> omega) _) | (refine Below.alloc ?_ (by (try simp) <;> omega) _)))))
  obtain ⟨w2, hw2⟩ : ∃ W, w1.alloc (.cells (bts y).toArray 26) = W := ⟨_, rfl⟩
  have z2 : w2.heap.size = ga + 2 := by rw [← hw2]; simp [z1]
  rw [hw2] at K1 B2 ⊢
  rw [z1] at K1
  have K2 := (Bk.new w2 26 (bts hash0).toArray)
  have B3 : Below w2.heap.size w2 (w2.alloc (.cells (bts hash0).toArray 26)) := (by (first | assumption | (repeat (first | exact Below.refl _ _ | assumption | apply Below.drew | apply below_drewN | (refine Below.setCell ?_ (by (try simp) <;> omega) _) | (refine Below.alloc ?_ (by (try simp) <;> omega) _)))))
  obtain ⟨w3, hw3⟩ : ∃ W, w2.alloc (.cells (bts hash0).toArray 26) = W := ⟨_, rfl⟩
  have z3 : w3.heap.size = ga + 3 := by rw [← hw3]; simp [z2]
  rw [hw3] at K2 B3 ⊢
  rw [z2] at K2
  have B03 : Below w.heap.size w w3 := (B1.trans (B2.mono B1.size)).trans (B3.mono (by omega))
  have A0 := (K0.below B2 (by omega)).below B3 (by omega)
  have A1 := K1.below B3 (by omega)
  have HW : Hid (∀ W, Below w3.drew.heap.size w3.drew W → Bk W ga 26 (bts x).toArray ∧ Bk W (ga + 1) 26 (bts y).toArray ∧ Bk W (ga + 2) 26 (bts hash0).toArray ∧ Below w.heap.size w W) := Lib.hid (fun W h =>
    have hd : Below w3.heap.size w3 w3.drew := (Below.refl _ _).drew
    ⟨A0.drew.below h A0.drew.lt, A1.drew.below h A1.drew.lt, K2.drew.below h K2.drew.lt, (B03.trans (hd.mono B03.size)).trans (h.mono (B03.trans (hd.mono B03.size)).size)⟩)
  have hxl : (bts x).length = 32 := by rw [bts_len, hx]
  have hyl : (bts y).length = 32 := by rw [bts_len, hy]
  have HGA := Lib.hid hga
  clear hw1 hw2 hw3 K0 K1 K2 A0 A1 B1 B2 B3 B03 z1 z2 hga
  refine wp_region_each_tail 4 (lstV [fun v _ => v = .slice (some ⟨ga, 0, none⟩) 32 32, fun v _ => v = .slice (some ⟨ga + 1, 0, none⟩) 32 32, TwoAt 0 (.slice (some ⟨ga, 0, none⟩) 32 32) (.slice (some ⟨ga + 1, 0, none⟩) 32 32), fun v _ => v = .agg (bts (pairF x y)).toArray]) (by kernel_rfl) (by kernel_rfl) (lstV_on (by repeat' (first | exact forall_nil | refine forall_cons ?_ ?_ | exact stays_two _ _ _ | exact stays_eq _))) ?turns ?fin
  case turns =>
    refine ⟨fun a W pre => ?_, fun a W pre => ?_, fun a W pre => ?_, fun a W pre => ?_, trivial⟩
    · refine .inl ?_
      have e2 : a.eval (.tmp 2) = .pointer (some ⟨ga, 0, none⟩) := pre.was 2 (by kernel_rfl) rfl
      have q2 := e2
      rw [Act.eval, Array.getD_eq_getD_getElem?] at q2
      exact does_val (want_none rfl) (by go_simp) rfl
    · refine .inl ?_
      have e2 : a.eval (.tmp 3) = .pointer (some ⟨ga + 1, 0, none⟩) := pre.was 3 (by kernel_rfl) rfl
      have q2 := e2
      rw [Act.eval, Array.getD_eq_getD_getElem?] at q2
      exact does_val (want_none rfl) (by go_simp) rfl
    · refine .inl ?_
      have e5 : a.eval (.tmp 5) = .slice (some ⟨ga, 0, none⟩) 32 32 := pre.val 0 5 (by kernel_rfl) (by kernel_rfl)
      have e6 : a.eval (.tmp 6) = .slice (some ⟨ga + 1, 0, none⟩) 32 32 := pre.val 1 6 (by kernel_rfl) (by kernel_rfl)
      have q5 := e5
      have q6 := e6
      rw [Act.eval, Array.getD_eq_getD_getElem?] at q5 q6
      have hb_ : Below W.heap.size W (W.alloc (.cells #[.slice (some ⟨ga, 0, none⟩) 32 32, .slice (some ⟨ga + 1, 0, none⟩) 32 32] 59)) := (by (first | assumption | (repeat (first | exact Below.refl _ _ | assumption | apply Below.drew | apply below_drewN | (refine Below.setCell ?_ (by (try simp) <;> omega) _) | (refine Below.alloc ?_ (by (try simp) <;> omega) _)))))
      exact does_new (want_none rfl) (by go_simp) hb_ ⟨W.heap.size, rfl, Nat.zero_le _, Bk.new W _ _⟩
    · refine .inl ?_
      have e7 : TwoAt 0 _ _ (a.eval (.tmp 7)) W := pre.val 2 7 (by kernel_rfl) (by kernel_rfl)
      obtain ⟨g, e7, hs⟩ := e7.sl
      have q7 := e7
      rw [Act.eval, Array.getD_eq_getD_getElem?] at q7
      obtain ⟨ka, kb, _, hbw⟩ := HW.out W pre.b
      have hj := join_any 1 (some ⟨g, 0, none⟩) [(some ⟨ga, 0, none⟩, 32, x), (some ⟨ga + 1, 0, none⟩, 32, y)] 2 W (HR.out.below hbw h0) (Nat.lt_of_lt_of_le h0 hbw.size) (by unfold maxLen; simp) (by simp only [List.map_cons, List.map_nil, slv, hx, hy]; exact hs) (fun p hp => by
        rcases List.mem_cons.1 hp with rfl | hp
        · have := bk_part ka (by unfold maxLen; omega)
          rw [hx] at this
          exact this
        · rw [List.mem_singleton] at hp
          subst hp
          have := bk_part kb (by unfold maxLen; omega)
          rw [hy] at this
          exact this)
      rw [joinF_two] at hj
      have hj' : Calls Tryd.prog 62 #[.int .u8 1, .slice (some ⟨g, 0, none⟩) 2 2] W _ := hj
      exact does_call (want_none rfl) (by go_simp) hj' (fun _ => rfl)
  case fin =>
    intro a W hb hsz2 hd hv ho
    have qs : a.eval (.tmp 8) = .agg (bts (pairF x y)).toArray := hv 3 8 (by decide) (by kernel_rfl)
    have q4 : a.eval (.tmp 4) = .pointer (some ⟨ga + 2, 0, none⟩) := ho 4 (no_dst (by kernel_rfl))
    have hs8 : a.tmps.size = 9 := by rw [hsz2]; rfl
    obtain ⟨_, _, hbk, hbw⟩ := HW.out W hb
    have hpl : (pairF x y).length = 32 := pairF_len x y
    have hbl : (bts (pairF x y)).length = 32 := by rw [bts_len, hpl]
    simp only [List.drop_succ_cons, List.drop_zero]
    refine wpList_puts (want_none rfl) 26 _ _ rfl (ga + 2) 0 q4 (bts (pairF x y)) qs 26 (bts hash0) hbk 32 hbl (by rw [h0l]; omega) hi_hash bts_all ?_
    intro w7 hb7 hm7 hz7
    rw [put_hash0 _ hpl] at hb7
    have HB7 := Lib.hid hb7
    have HM7 := Lib.hid hm7
    have HBW := Lib.hid hbw
    have p4 := q4
    rw [Act.eval] at p4
    have P4 := Lib.hid p4
    clear hb7 hm7 hbw hbk qs q4 p4 hb hv ho
    go_wp2_with fail
    refine bodyPost_ret (results_cell_row rfl _ _ (ga + 2) 26 (bts (pairF x y)).toArray (0, 0) _ (by exact P4.out) HB7.out Tryd.underlying26 rfl (by rw [hi_hash]; simp [hbl])) (by exact hd) ?_
    refine ⟨rfl, HBW.out.trans (HM7.out.to_below HBW.out.size (fun k o e => ?_))⟩
    rw [e, HGA.out]
    omega
end Go.Proofs.YtdeikpifflkabaaDoor

namespace Go.Proofs.YtdeikpifflkabaaDoor
open Go.RowKit
set_option linter.unusedVariables false
set_option linter.unusedSimpArgs false

theorem lt_of_heap_new (w : World) (o : Obj) : w.heap.size < (w.drew.alloc o).heap.size := by
  show w.heap.size < (w.heap.push o).size
  rw [Array.size_push]
  exact Nat.lt_succ_self _
/-- A string's bytes, made anew. -/
theorem conv_sb (w : World) (s : ByteArray) (n : Nat) (hn : s.size = n) (hm : n ≤ maxLen) : ∃ c W, (convert 9 59 (.string s)).run Tryd.prog w = .ok (.slice (some ⟨w.heap.size, 0, none⟩) n c) W ∧ n ≤ c ∧ c ≤ maxLen ∧ Below w.heap.size w W ∧ Sl W W.heap.size 1 (some ⟨w.heap.size, 0, none⟩) n (bts s.data.toList) := by
  subst hn
  refine ⟨_, _, run_bytes_of_string w 9 59 5 s Tryd.underlying9 Tryd.underlying59 Tryd.underlying5, grownCap_ge _ _ _ _, grownCap_le_maxLen _ _ _ _ hm, (by (first | assumption | (repeat (first | exact Below.refl _ _ | assumption | apply Below.drew | apply below_drewN | (refine Below.setCell ?_ (by (try simp) <;> omega) _) | (refine Below.alloc ?_ (by (try simp) <;> omega) _))))), ?_⟩
  have hl : (bts s.data.toList).length = s.size := by rw [bts_len, Array.length_toList]; rfl
  refine ⟨by rw [hl]; omega, fun _ => ⟨w.heap.size, 0, rfl, lt_of_heap_new w _, fun j u hu => ?_⟩⟩
  have hc : ∀ (o : Obj), (w.drew.alloc o).heap[w.heap.size]? = some o := fun o => heap_alloc_new w.drew o
  have hb : (bytesRow s (grownCap w s.size 0 5))[j]? = some u := by
    have hj : j < s.size := by rw [← hl]; exact (List.getElem?_eq_some_iff.1 hu).1
    unfold bytesRow
    rw [Array.getElem?_append_left (by rw [Array.size_map]; exact hj), Array.getElem?_map]
    simp only [bts, List.getElem?_map] at hu
    simpa using hu
  unfold World.cell?
  simp only [hc, Nat.zero_add]
  exact hb
theorem run_cv {o : Oper} {a : Act} {w W : World} {v : Value} {s : ByteArray} (x : Operand) (ho : o.op = .convert 9 59 x) (hx : a.eval x = .string s) (h : (convert 9 59 (.string s)).run Tryd.prog w = .ok v W) : (execOp a.eval o).run Tryd.prog w = .ok (.value v) W := by
  unfold execOp
  simp only [ho, hx, Sem.run_bind, h, Result.andThen_ok, Sem.run_pure]
theorem joinF_three (t : UInt8) (A B C : Option Addr) (c1 c2 c3 : Nat) (a b d : List UInt8) : joinF t [(A, c1, a), (B, c2, b), (C, c3, d)] = digF (t :: (a ++ b ++ d)) := by simp [joinF, catF]
theorem lenB_cells (s : ByteArray) (n : Nat) (hn : s.size = n) (h : n ≤ 4096) : (bts (lenB s)).toArray = #[.int .u8 ((n : Int) / 256), .int .u8 ((n : Int) % 256)] := by
  have h1 : ((UInt8.ofNat (n / 256 % 256)).toNat : Int) = (n : Int) / 256 := by rw [UInt8.toNat_ofNat']; omega
  have h2 : ((UInt8.ofNat (n % 256)).toNat : Int) = (n : Int) % 256 := by rw [UInt8.toNat_ofNat']; omega
  simp only [bts, lenB, hn, List.map_cons, List.map_nil, h1, h2]
attribute [local irreducible] digF
set_option maxRecDepth 100000 in
set_option maxHeartbeats 4000000 in
theorem leaf_any (e : Ent) (he1 : e.1.size ≤ 4096) (he2 : e.2.size ≤ 4096) (w : World) (hr : Roots w) (h0 : 0 < w.heap.size) :
    Calls Tryd.prog 48 #[.agg #[.string e.1, .string e.2]] w fun en w' => en = .returned (.agg (bts (leafF e)).toArray) ∧ Below w.heap.size w w' := by
  have hzh := zero_hash
  have h0l : (bts hash0).length = 32 := by rw [bts_len, hash0_len]
  have HR := Lib.hid hr
  obtain ⟨k, v⟩ := e
  simp only at he1 he2
  obtain ⟨n, hn⟩ : ∃ n, k.size = n := ⟨_, rfl⟩
  have he1' : n ≤ 4096 := by omega
  clear hr
  go_enter Tryd.func48, Tryd.ntmps48
  go_upto_region 2 with fail
  have B2 : Below w.heap.size w ((w.alloc (.cells #[.string k, .string v] 31)).alloc (.cells (bts hash0).toArray 26)) := (by (first | assumption | (repeat (first | exact Below.refl _ _ | assumption | apply Below.drew | apply below_drewN | (refine Below.setCell ?_ (by (try simp) <;> omega) _) | (refine Below.alloc ?_ (by (try simp) <;> omega) _)))))
  have K0 := (Bk.new w 31 #[.string k, .string v]).alloc (.cells (bts hash0).toArray 26)
  have K1 := Bk.new (w.alloc (.cells #[.string k, .string v] 31)) 26 (bts hash0).toArray
  obtain ⟨ga, hga⟩ : ∃ n, w.heap.size = n := ⟨_, rfl⟩
  obtain ⟨w2, hw2⟩ : ∃ W, (w.alloc (.cells #[.string k, .string v] 31)).alloc (.cells (bts hash0).toArray 26) = W := ⟨_, rfl⟩
  rw [show (w.alloc (.cells #[.string k, .string v] 31)).heap.size = ga + 1 by rw [← hga]; simp] at K1
  rw [hw2] at B2 K0 K1 ⊢
  rw [hga] at K0 ⊢
  have B3 : Below w2.heap.size w2 (w2.alloc (.cells #[.int .u8 ((n : Int) / 256), .int .u8 ((n : Int) % 256)] 5)) := (by (first | assumption | (repeat (first | exact Below.refl _ _ | assumption | apply Below.drew | apply below_drewN | (refine Below.setCell ?_ (by (try simp) <;> omega) _) | (refine Below.alloc ?_ (by (try simp) <;> omega) _)))))
  have N3 := Bk.new w2 5 #[.int .u8 ((n : Int) / 256), .int .u8 ((n : Int) % 256)]
  obtain ⟨g3, hg3⟩ : ∃ n, w2.heap.size = n := ⟨_, rfl⟩
  obtain ⟨w3, hw3⟩ : ∃ W, w2.alloc (.cells #[.int .u8 ((n : Int) / 256), .int .u8 ((n : Int) % 256)] 5) = W := ⟨_, rfl⟩
  obtain ⟨c4, w4, hc4, hn4, hm4, B4, S4⟩ := conv_sb w3 k n hn (by unfold maxLen; omega)
  obtain ⟨c5, w5, hc5, hn5, hm5, B5, S5⟩ := conv_sb w4 v v.size rfl (by unfold maxLen; omega)
  rw [hw3] at B3 N3
  have hc4' : (convert 9 59 (.string k)).run Tryd.prog (w2.alloc (.cells #[.int .u8 ((n : Int) / 256), .int .u8 ((n : Int) % 256)] 5)) = _ := hw3 ▸ hc4
  have k3 := K0.below B3 K0.lt
  have k4 := k3.below B4 k3.lt
  have x0 : w2.cell? ⟨ga, 0, none⟩ = some (.string k) := K0.cell 0
  have x3 : (w2.alloc (.cells #[.int .u8 ((n : Int) / 256), .int .u8 ((n : Int) % 256)] 5)).cell? ⟨ga, 0, none⟩ = some (.string k) := by rw [hw3]; exact k3.cell 0
  have x4 : w4.cell? ⟨ga, 1, none⟩ = some (.string v) := k4.cell 1
  have z3 : w3.heap.size = g3 + 1 := by rw [← hw3, ← hg3]; simp
  have hkl : k.data.toList.length = n := by rw [Array.length_toList]; exact hn
  have hvl : v.data.toList.length = v.size := by rw [Array.length_toList]; rfl
  have hN3 : Bk w3 g3 5 (bts (lenB k)).toArray := by rw [lenB_cells k n hn he1']; rw [hg3] at N3; exact N3
  have b25 : Below w2.heap.size w2 w5 := (B3.trans (B4.mono B3.size)).trans (B5.mono (Nat.le_trans B3.size B4.size))
  have b05 : Below w.heap.size w w5 := B2.trans (b25.mono B2.size)
  have p1 : Part.good w5 (some ⟨g3, 0, none⟩, 2, lenB k) := Part.good.below (Part.good.below (bk_part hN3 (by unfold maxLen; simp [lenB])) B4) B5
  have p2 : Part.good w5 (some ⟨g3 + 1, 0, none⟩, c4, k.data.toList) := Part.good.below (p := (some ⟨g3 + 1, 0, none⟩, c4, k.data.toList)) ⟨by rw [hkl]; exact hn4, hm4, by rw [hkl, ← z3]; exact S4⟩ B5
  have p3 : Part.good w5 (some ⟨w4.heap.size, 0, none⟩, c5, v.data.toList) := ⟨by rw [hvl]; exact hn5, hm5, by rw [hvl]; exact S5⟩
  have k5 := K1.below b25 K1.lt
  have HP1 := Lib.hid p1
  have HP2 := Lib.hid p2
  have HP3 := Lib.hid p3
  have HB5 := Lib.hid b05
  have HK5 := Lib.hid k5
  have HG3 := Lib.hid hg3
  have HGA := Lib.hid hga
  have HC4 := Lib.hid hc4'
  have HC5 := Lib.hid hc5
  have HN3 := Lib.hid N3
  clear hc4' hc5 N3 K0 K1 k3 k4 B2 B3 B4 B5 S4 S5 hn4 hm4 hn5 hm5 hw3 hw2 hga hg3 hc4 z3 hN3 b25 b05 p1 p2 p3 k5
  go_wp2_with fail
  rw [HC4.out]
  go_wp2_with fail
  rw [HC5.out]
  go_wp2_with fail
  rw [HG3.out]
  have N6 : Below w5.heap.size w5 (w5.alloc (.cells #[.slice (some ⟨g3, 0, none⟩) 2 2, .slice (some ⟨g3 + 1, 0, none⟩) n c4, .slice (some ⟨w4.heap.size, 0, none⟩) v.size c5] 59)) := (by (first | assumption | (repeat (first | exact Below.refl _ _ | assumption | apply Below.drew | apply below_drewN | (refine Below.setCell ?_ (by (try simp) <;> omega) _) | (refine Below.alloc ?_ (by (try simp) <;> omega) _)))))
  have hb6 := HB5.out.trans (N6.mono HB5.out.size)
  have hj := join_any 0 (some ⟨w5.heap.size, 0, none⟩) [(some ⟨g3, 0, none⟩, 2, lenB k), (some ⟨g3 + 1, 0, none⟩, c4, k.data.toList), (some ⟨w4.heap.size, 0, none⟩, c5, v.data.toList)] 3 _ (HR.out.below hb6 h0) (Nat.lt_of_lt_of_le h0 hb6.size) (by unfold maxLen; simp)
    (by
      simp only [List.map_cons, List.map_nil, slv, hkl, hvl]
      exact built_sl (cs := [.slice (some ⟨g3, 0, none⟩) 2 2, .slice (some ⟨g3 + 1, 0, none⟩) n c4, .slice (some ⟨w4.heap.size, 0, none⟩) v.size c5]) rfl)
    (fun p hp => by
      rcases List.mem_cons.1 hp with rfl | hp
      · exact Part.good.below HP1.out N6
      rcases List.mem_cons.1 hp with rfl | hp
      · exact Part.good.below HP2.out N6
      · rw [List.mem_singleton] at hp
        subst hp
        exact Part.good.below HP3.out N6)
  rw [joinF_three] at hj
  obtain ⟨J, hJ⟩ : ∃ J, digF (0 :: (lenB k ++ k.data.toList ++ v.data.toList)) = J := ⟨_, rfl⟩
  have hJl : J.length = 32 := by rw [← hJ, digF_len]
  have hbl : (bts J).length = 32 := by rw [bts_len, hJl]
  have HJJ : Hid (leafF (k, v) = J) := Lib.hid hJ
  rw [hJ] at hj
  have hj' : Calls Tryd.prog 62 #[.int .u8 0, .slice (some ⟨w5.heap.size, 0, none⟩) 3 3] (w5.alloc (.cells #[.slice (some ⟨g3, 0, none⟩) 2 2, .slice (some ⟨g3 + 1, 0, none⟩) n c4, .slice (some ⟨w4.heap.size, 0, none⟩) v.size c5] 59)) _ := hj
  have HJ := Lib.hid hj'
  have O6 := Lib.hid (HK5.out.alloc (.cells #[.slice (some ⟨g3, 0, none⟩) 2 2, .slice (some ⟨g3 + 1, 0, none⟩) n c4, .slice (some ⟨w4.heap.size, 0, none⟩) v.size c5] 59))
  have L6 := Lib.hid hb6
  clear hj hj' hJ N6 hb6 hkl hvl
  with_reducible refine HJ.out.mono ?_
  rintro e w7 ⟨rfl, hb7⟩
  have O7 := Lib.hid (O6.out.below hb7 O6.out.lt)
  have L7 := Lib.hid (L6.out.trans (hb7.mono L6.out.size))
  clear hb7 O6 L6 HJ
  go_wp2_with (refine wpList_puts (by rfl) 26 _ _ (by with_reducible rfl) (ga + 1) 0 (by rfl) (bts J) (by rfl) 26 (bts hash0) (by exact O7.out) 32 hbl (by rw [h0l]; omega) hi_hash bts_all ?_; intro w9 hb_ hm_ hz_; rw [put_hash0 _ hJl] at hb_; have HM9 := Lib.hid hm_; have HR9 := Lib.hid hb_; clear hb_ hm_ hz_)
  refine bodyPost_ret (results_cell_row rfl _ _ (ga + 1) 26 (bts J).toArray (0, 0) _ (by rfl) HR9.out Tryd.underlying26 rfl (by rw [hi_hash]; simp [hbl])) rfl ?_
  refine ⟨by rw [HJJ.out], L7.out.trans (HM9.out.to_below L7.out.size (fun k o e => ?_))⟩
  rw [e, HGA.out]
  omega
end Go.Proofs.YtdeikpifflkabaaDoor

namespace Go.Proofs.YtdeikpifflkabaaDoor
open Go.RowKit
set_option linter.unusedVariables false
set_option linter.unusedSimpArgs false

theorem own_below {w w' : World} {base : Nat} {e : TypeId} {sz n : Nat} {v : Value} {xs : List Value} (h : w.ownsRow base e sz v n xs) (hb : Below w.heap.size w w') : w'.ownsRow base e sz v n xs :=
  (Moves.below (fun _ _ => False) hb (Nat.le_refl _)).own h (fun _ _ _ h => h)
theorem hash_info : (Tryd.prog.info? 26).map (fun i => (i.zero, i.size, i.bytes)) = some (some (.agg (bts hash0).toArray), 32, 32) := by kernel_rfl
theorem leaves_32 (l : List Ent) : h32 (l.map leafF) := fun a ha => by
  obtain ⟨e, _, rfl⟩ := List.mem_map.1 ha
  exact leafF_len e

attribute [local irreducible] digF
set_option maxRecDepth 100000 in
set_option maxHeartbeats 4000000 in
theorem leaves_any (A : Option Addr) (l : List Ent) (c : Nat) (w : World) (hl : l.length ≤ 70) (hf : Fits l) (hr : Roots w) (h0 : 0 < w.heap.size) (hA : Sl w w.heap.size 2 A l.length (eCells l)) :
    Calls Tryd.prog 27 #[.slice A l.length c] w fun e w' => ∃ A' c', e = .returned (.slice A' l.length c') ∧ l.length ≤ c' ∧ c' ≤ maxLen ∧ Sl w' w'.heap.size 32 A' l.length (hCells (l.map leafF)) ∧ Below w.heap.size w w' := by
  have HA := Lib.hid hA
  have HF := Lib.hid hf
  have HR := Lib.hid hr
  obtain ⟨i0, hi, hz0, hz1, hz2⟩ := info_parts hash_info
  have h0l : (bts hash0).length = 32 := by rw [bts_len, hash0_len]
  clear hA hf hr
  go_enter Tryd.func27, Tryd.ntmps27
  go_wp2_with fail
  go_loopw [3, 8] (fun v i wr => ∃ (k : Nat), k ≤ l.length ∧ i = .int .i64 k ∧ wr.ownsRow w.heap.size 26 32 v k (hCells ((l.take k).map leafF)) ∧ Below w.heap.size w wr) (fun _ i _ => l.length - (intOf i).toNat)
  case atStart => exact ⟨0, by omega, rfl, ⟨rfl, .inl ⟨rfl, rfl⟩⟩, Below.refl _ _⟩
  case round =>
    obtain ⟨k, hk, rfl, ho, hbel⟩ := hrel
    have hz := hbel.size
    have HO := Lib.hid ho
    have HB := Lib.hid hbel
    clear ho hbel
    by_cases hlt : k < l.length
    · have hlt' : (k : Int) < (l.length : Int) := by omega
      obtain ⟨b, off, ka, va, rfl, hb, hca, hcv, hla⟩ := (HA.out.below HB.out).ent hlt
      have hfit := HF.out _ (List.mem_of_getElem? hla)
      simp only at hfit
      have HT : Hid (hCells ((l.take k).map leafF) ++ bts (leafF (ka, va)) = hCells ((l.take (k + 1)).map leafF)) := Lib.hid (by rw [take_at hla, List.map_append, hCells, hCells, List.flatMap_append]; simp)
      have HFI := Lib.hid hfit
      clear hla hfit
      go_upto_region 5 with fail
      have K2 := Bk.new wr 31 #[.string ka, .string va]
      have L2 : Hid (Below w.heap.size w (wr.alloc (.cells #[.string ka, .string va] 31))) := Lib.hid (by have hbel := HB.out; (first | assumption | (repeat (first | exact Below.refl _ _ | assumption | apply Below.drew | apply below_drewN | (refine Below.setCell ?_ (by (try simp) <;> omega) _) | (refine Below.alloc ?_ (by (try simp) <;> omega) _)))))
      have O2 := Lib.hid (own_below HO.out ((Below.refl wr.heap.size wr).alloc (Nat.le_refl _) (.cells #[.string ka, .string va] 31)))
      obtain ⟨w2, hw2⟩ : ∃ W, wr.alloc (.cells #[.string ka, .string va] 31) = W := ⟨_, rfl⟩
      rw [hw2] at K2 L2 O2 ⊢
      have x0 : w2.cell? ⟨wr.heap.size, 0, none⟩ = some (.string ka) := K2.cell 0
      have x1 : w2.cell? ⟨wr.heap.size, 1, none⟩ = some (.string va) := K2.cell 1
      clear hw2 K2 hca hcv HO HB
      have HC := Lib.hid (leaf_any (ka, va) (by have := HFI.out; simp only; omega) (by have := HFI.out; simp only; omega) w2 (HR.out.below L2.out h0) (Nat.lt_of_lt_of_le h0 L2.out.size))
      go_wp2_with fail
      with_reducible refine HC.out.mono ?_
      rintro e w3 ⟨rfl, hb3⟩
      have L3 := Lib.hid (L2.out.trans (hb3.mono L2.out.size))
      have O3 := Lib.hid (own_below O2.out hb3)
      clear HC hb3 x0 x1 O2 L2
      obtain ⟨J, hJ⟩ : ∃ J, leafF (ka, va) = J := ⟨_, rfl⟩
      have hJl : (bts J).length = 32 := by rw [bts_len, ← hJ, leafF_len]
      rw [hJ] at HT ⊢
      clear hJ HFI
      have K4 := Lib.hid (Bk.new w3 26 (bts J).toArray)
      have L4 : Hid (Below w.heap.size w (w3.alloc (.cells (bts J).toArray 26))) := Lib.hid (by have hbel := L3.out; have hz3 := hbel.size; (first | assumption | (repeat (first | exact Below.refl _ _ | assumption | apply Below.drew | apply below_drewN | (refine Below.setCell ?_ (by (try simp) <;> omega) _) | (refine Below.alloc ?_ (by (try simp) <;> omega) _)))))
      have O4 := Lib.hid (own_below O3.out ((Below.refl w3.heap.size w3).alloc (Nat.le_refl _) (.cells (bts J).toArray 26)))
      have SL : Hid (Sl (w3.alloc (.cells (bts J).toArray 26)) (w3.alloc (.cells (bts J).toArray 26)).heap.size 32 (some ⟨w3.heap.size, 0, none⟩) 1 (bts J)) := Lib.hid ⟨by rw [hJl], fun _ => ⟨w3.heap.size, 0, rfl, by simp, fun j u hu => by rw [Nat.zero_add, K4.out.cell, List.getElem?_toArray]; exact hu⟩⟩
      have hk70 : k ≤ 70 := by omega
      clear K4 O3 L3
      go_wp2_with (first
        | (refine wpList_new (by rfl) (run_slice_one 39 26 _ (by with_reducible rfl) Tryd.underlying39 (bts J) (by rfl) 32 hJl (by omega) (by omega) (fun w => Tryd.sizeOf26 w) _ (fun w => zero_hash w)) ?_)
        | (refine wpList_append_sl _ (by rfl) _ _ 39 (by rfl) w.heap.size 26 i0 _ 32 32 Tryd.underlying39 hi hz0 hz1 hz2 h0l (by omega) _ k (hCells ((l.take k).map leafF)) (by rfl) O4.out (some ⟨w3.heap.size, 0, none⟩) 1 1 (bts J) (by rfl) SL.out bts_one (by unfold maxLen; omega) (by omega) L4.out.size ?_; intro v5 w5 ho_ hg_ hv_))
      rw [HT.out] at ho_
      have O5 := Lib.hid ho_
      have L5 : Hid (Below w.heap.size w w5) := Lib.hid (L4.out.grown hg_ L4.out.size (fun k hk => (own_cells O4.out hk).1))
      clear ho_ hg_ hv_ O4 L4 SL
      go_roundw
      case rel => exact ⟨k + 1, by omega, by go_num, O5.out, L5.out⟩
      case measure => simp [intOf]; omega
    · obtain rfl : k = l.length := by omega
      have ho := HO.out
      rw [List.take_length] at ho
      obtain ⟨Av, cv, rfl, hv1, hv2, hvs⟩ := own_sl ho
      have HV := Lib.hid (And.intro hv1 (And.intro hv2 hvs))
      clear ho hv1 hv2 hvs HO
      go_wp2_with fail
      go_ret
      exact ⟨Av, cv, rfl, HV.out.1, HV.out.2.1, HV.out.2.2, by have hbel := HB.out; (first | assumption | (repeat (first | exact Below.refl _ _ | assumption | apply Below.drew | apply below_drewN | (refine Below.setCell ?_ (by (try simp) <;> omega) _) | (refine Below.alloc ?_ (by (try simp) <;> omega) _))))⟩
end Go.Proofs.YtdeikpifflkabaaDoor

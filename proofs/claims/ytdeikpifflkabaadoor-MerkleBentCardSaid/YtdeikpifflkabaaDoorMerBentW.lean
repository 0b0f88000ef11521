/- What this text proves: a part bent in place: what a store into a row of parts leaves. No condition beside what is said of the row. what each bend of a proof leaves: a part's cell set, or the size. No condition beside what is said of the row and the proof. what is accepted of the entries' root without a clash says what they have. No condition. the law wp_region_part with one word more: a slot that only the tail writes is as it was while the others run. The conditions are checked by the kernel, or the law's own premises. all texts that are hashed on a way (the contract of the reference's upTexts). The conditions: how long the way is; how it lies in memory. all texts that are hashed for a proof (the contract of the reference's Ways). The conditions: how many parts, how long their texts and ways; how they lie in memory. the walk of the statement MerkleBent: it returns true. The conditions: how its arguments lie in memory; that the package's table is as its text lays it. -/
import Derived.Test.YtdeikpifflkabaaDoorMerProve
import Derived.Test.YtdeikpifflkabaaDoorEachTail
import Derived.Test.YtdeikpifflkabaaDoorMerTextsR
import Derived.Test.YtdeikpifflkabaaDoorMerLeadsR
import Derived.Test.YtdeikpifflkabaaDoorMerClash
import Derived.Test.YtdeikpifflkabaaDoorMerAlive
namespace Go.Proofs.YtdeikpifflkabaaDoor
open Go.RowKit Go.Shelf
set_option linter.unusedVariables false
set_option linter.unusedSimpArgs false

theorem pCells_set {ps : List PartV} {j r : Nat} {p p' : PartV} {u : Value} (hp : ps[j]? = some p) (hr : r < 4) (hc : p'.cells = p.cells.set r u) : (pCells ps).set (j * 4 + r) u = pCells (ps.set j p') := by
  have hj : j < ps.length := (List.getElem?_eq_some_iff.1 hp).1
  have hd : ps = ps.take j ++ p :: ps.drop (j + 1) := by rw [← drop_at hp, List.take_append_drop]
  have hs : ps.set j p' = ps.take j ++ p' :: ps.drop (j + 1) := by rw [List.set_eq_take_append_cons_drop, if_pos hj]
  have hl : (pCells (ps.take j)).length = j * 4 := by
    rw [pCells, flat_len' PartV.cells _ pCells_len1, List.length_take, Nat.min_eq_left (by omega)]
  have hpl : p.cells.length = 4 := rfl
  rw [hs]
  conv => lhs; rw [hd]
  have e1 : pCells (ps.take j ++ p :: ps.drop (j + 1)) = pCells (ps.take j) ++ (p.cells ++ pCells (ps.drop (j + 1))) := by simp [pCells]
  have e2 : pCells (ps.take j ++ p' :: ps.drop (j + 1)) = pCells (ps.take j) ++ (p'.cells ++ pCells (ps.drop (j + 1))) := by simp [pCells]
  rw [e1, e2, List.set_append_right _ _ (by omega), hl, show j * 4 + r - j * 4 = r by omega, List.set_append_left _ _ (by omega), hc]
/-- What bending a part moves: blocks of parts. -/
def BX (N0 : Nat) (k : Nat) (o : Obj) : Prop := N0 ≤ k ∧ ∃ cs, o = .cells cs 41 (0, 0)
theorem PathAt.bent {N0 : Nat} {path : List (List UInt8)} {A : Option Addr} {c : Nat} {W W' : World} (h : PathAt N0 path A c W) (hm : Moves (BX N0) W W') : PathAt N0 path A c W' := hm.own h (by
  rintro g cs hb ⟨_, cs', h2⟩
  injection h2 with _ h3
  exact absurd h3 (by decide))
theorem PartsIn.set {N0 gq cap m j r : Nat} {ps : List PartV} {p p' : PartV} {u : Value} {W : World} (hm : ps.length = m) (h : PartsIn N0 ps (.slice (some ⟨gq, 0, none⟩) m cap) W) (hp : ps[j]? = some p) (hr : r < 4) (hc : p'.cells = p.cells.set r u) (hpath : PathAt N0 p'.path p'.A p'.c W) :
    PartsIn N0 (ps.set j p') (.slice (some ⟨gq, 0, none⟩) m cap) (W.setCell ⟨gq, j * 4 + r, none⟩ u) ∧ Moves (BX N0) W (W.setCell ⟨gq, j * 4 + r, none⟩ u) ∧ W.frozen? ⟨gq, j * 4 + r, none⟩ = false := by
  subst hm
  obtain ⟨s1, s2⟩ := h.row.stored (j * 4 + r) u
  have hmv : Moves (BX N0) W (W.setCell ⟨gq, j * 4 + r, none⟩ u) := (Moves.own_grown h.row s2).more (fun k o hx => hx)
  refine ⟨⟨?_, fun q hq => ?_⟩, hmv, h.row.frozenAt _⟩
  · rw [List.length_set, ← pCells_set hp hr hc]
    exact s1
  · rcases List.mem_or_eq_of_mem_set hq with hq | rfl
    · exact (h.paths q hq).bent hmv
    · exact hpath.bent hmv
theorem PathAt.half {N0 k : Nat} {path : List (List UInt8)} {A : Option Addr} {c : Nat} {W : World} (h : PathAt N0 path A c W) (h32p : h32 path) (hk : k ≤ path.length) (hk0 : path.length ≠ 0 ∨ A = none ∧ c = 0) : PathAt N0 (path.take k) A c W := by
  have hl : (path.take k).length = k := by rw [List.length_take]; omega
  unfold PathAt at h ⊢
  rw [hl]
  rcases h.2 with ⟨h1, h2⟩ | ⟨g, cap, cur, h1, hb, hg, hn, hc, hs, ht⟩
  · have hk' : k = 0 := by omega
    subst hk'
    injection h1 with e1 e2 e3
    subst e1
    subst e3
    rw [List.take_zero]
    exact World.ownsRow_nil _ _ _ _
  · injection h1 with e1 e2 e3
    subst e1
    subst e3
    refine ⟨by rw [hCells_len (h32p.take k), hl], .inr ⟨g, c, cur, rfl, hb, hg, by omega, hc, hs, ?_⟩⟩
    have : (cur.toList.take (path.length * 32)).take (k * 32) = hCells (path.take k) := by
      rw [ht]
      exact flat_take' bts path k h32p.cells
    rw [List.take_take, Nat.min_eq_left (by have := Nat.mul_le_mul_right 32 hk; omega)] at this
    exact this
end Go.Proofs.YtdeikpifflkabaaDoor

namespace Go.Proofs.YtdeikpifflkabaaDoor
open Go.RowKit Go.Shelf
set_option linter.unusedVariables false
set_option linter.unusedSimpArgs false

theorem PartV.good_of {N0 : Nat} {p : PartV} {W : World} (h : PathAt N0 p.path p.A p.c W) (h32p : h32 p.path) (lo : -9223372036854775808 ≤ p.idx) (hi : p.idx < 9223372036854775808) : p.good W := by
  obtain ⟨A, c, e, h1, h2, h3⟩ := own_sl (show World.ownsRow _ _ _ _ _ _ _ from h)
  injection e with e1 e2 e3
  exact ⟨by omega, by omega, h32p, lo, hi, by rw [e1]; exact h3⟩
/-- A frame is the elder one but for some slots. -/
theorem sets_of {T : Array Value} : ∀ (l : List Nat) (a : Array Value), T.size = a.size → (∀ t, t ∉ l → T.getD t undef = a.getD t undef) → T = l.foldl (fun b t => b.setIfInBounds t (T.getD t undef)) a
  | [], a, hs, h => by
    show T = a
    refine Array.ext hs fun i h1 h2 => ?_
    have := h i (by simp)
    rwa [Array.getD_eq_getD_getElem?, Array.getD_eq_getD_getElem?, Array.getElem?_eq_getElem h1, Array.getElem?_eq_getElem h2] at this
  | x :: l, a, hs, h => by
    rw [List.foldl_cons]
    refine sets_of l (a.setIfInBounds x (T.getD x undef)) (by rw [Array.size_setIfInBounds]; exact hs) fun t ht => ?_
    by_cases hx : t = x
    · subst hx
      by_cases hl : t < a.size
      · rw [Array.getD_eq_getD_getElem? (xs := Array.setIfInBounds _ _ _), Array.getElem?_setIfInBounds_self_of_lt hl]
        rfl
      · rw [Array.setIfInBounds_eq_of_size_le (by omega), Array.getD_eq_getD_getElem?, Array.getD_eq_getD_getElem?, Array.getElem?_eq_none (by omega), Array.getElem?_eq_none (by omega)]
    · rw [h t (by simp [hx, ht]), Array.getD_eq_getD_getElem?, Array.getD_eq_getD_getElem?, Array.getElem?_setIfInBounds_ne (Ne.symm hx)]
theorem dst_in {ops : Array Oper} {l : List Nat} (h : (List.range ops.size).all (fun j => (dstOf ops j).all l.contains) = true) {t : Nat} (ht : t ∉ l) (j : Nat) : dstOf ops j ≠ some t := fun e => by
  have hj : j < ops.size := by
    apply Classical.byContradiction
    intro hn
    unfold dstOf at e
    rw [Array.getElem?_eq_none (by omega)] at e
    cases e
  have := List.all_eq_true.1 h j (List.mem_range.2 hj)
  rw [e] at this
  simp only [Option.all_some, List.contains_iff_mem] at this
  exact ht this
/-- A slice of hashes. -/
def SlH (m : Nat) (path : List (List UInt8)) (v : Value) (W : World) : Prop := ∃ A2 c2, v = .slice A2 m c2 ∧ Sl W W.heap.size 32 A2 m (hCells path)
theorem stays_slh (m : Nat) (path : List (List UInt8)) : Remains (SlH m path) := fun _ _ _ ⟨A, c, h1, h2⟩ hb => ⟨A, c, h1, (h2.below hb).more hb.size⟩
theorem PathAt.cut {N0 k : Nat} {path : List (List UInt8)} {A : Option Addr} {c : Nat} {W : World} (h : PathAt N0 path A c W) (h32p : h32 path) (hk : k ≤ path.length) : PathAt N0 (path.take k) A c W := by
  by_cases h0 : path.length = 0
  · have hp : path = [] := List.eq_nil_of_length_eq_zero h0
    subst hp
    rw [List.take_nil]
    exact h
  · exact h.half h32p hk (.inl h0)
/-- A part with the first k hashes of its way. -/
def PartV.cutP (p : PartV) (k : Nat) : PartV := ⟨p.idx, p.e, p.A, p.path.take k, p.c⟩
theorem PartV.cutP_cells {p : PartV} {k : Nat} (hk : k ≤ p.path.length) : (p.cutP k).cells = p.cells.set 3 (.slice p.A k p.c) := by
  show [_, _, _, Value.slice p.A (p.path.take k).length p.c] = _
  rw [List.length_take, Nat.min_eq_left hk]
  rfl
/-- A part with another way. -/
def PartV.wayP (p : PartV) (A : Option Addr) (path : List (List UInt8)) (c : Nat) : PartV := ⟨p.idx, p.e, A, path, c⟩
theorem PartV.wayP_cells (p : PartV) (A : Option Addr) (path : List (List UInt8)) (c : Nat) {n : Nat} (hn : path.length = n) : (p.wayP A path c).cells = p.cells.set 3 (.slice A n c) := by
  subst hn
  rfl
/-- What the bends leave. -/
def BentTo (w : World) (ga gb m c' : Nat) (P : Option Addr) (J : List UInt8) (wx : World) : Prop :=
  ∃ (s' : Int) (ps' : List PartV), -9223372036854775808 ≤ s' ∧ s' < 9223372036854775808 ∧ ps'.length = m ∧ (∀ p ∈ ps', p.fits ∧ p.good wx ∧ p.path.length ≤ 20) ∧ Sl wx wx.heap.size 4 P m (pCells ps') ∧ Bk wx gb 38 #[.int .i64 s', .slice P m c'] ∧ Bk wx ga 26 (bts J).toArray ∧ Below w.heap.size w wx
theorem bent_as {w W : World} {N0 ga gb m c' : Nat} {v : Option Addr} {J : List UInt8} {ps : List PartV} {s : Int} (h1 : -9223372036854775808 ≤ s) (h2 : s < 9223372036854775808) (hm : ps.length = m) (hin : PartsIn N0 ps (.slice v m c') W)
    (hf : ∀ p ∈ ps, p.fits ∧ p.path.length ≤ 20) (hg : ∀ p ∈ ps, h32 p.path ∧ -9223372036854775808 ≤ p.idx ∧ p.idx < 9223372036854775808) (hkp : Bk W gb 38 #[.int .i64 s, .slice v m c']) (hka : Bk W ga 26 (bts J).toArray) (hb : Below w.heap.size w W) : BentTo w ga gb m c' v J W := by
  obtain ⟨P', cc, e1, _, _, hs⟩ := own_sl hin.row
  injection e1 with e2
  refine ⟨s, ps, h1, h2, hm, fun p hp => ⟨(hf p hp).1, PartV.good_of (hin.paths p hp) (hg p hp).1 (hg p hp).2.1 (hg p hp).2.2, (hf p hp).2⟩, ?_, hkp, hka, hb⟩
  rw [← hm, e2]
  exact hs
theorem bent_set {w W : World} {N0 ga gb gq m c' j r : Nat} {J : List UInt8} {ps : List PartV} {p p' : PartV} {u : Value} {s : Int} (h1 : -9223372036854775808 ≤ s) (h2 : s < 9223372036854775808) (hm : ps.length = m) (hN : w.heap.size ≤ N0) (hin : PartsIn N0 ps (.slice (some ⟨gq, 0, none⟩) m c') W)
    (hf : ∀ p ∈ ps, p.fits ∧ p.path.length ≤ 20) (hg : ∀ p ∈ ps, h32 p.path ∧ -9223372036854775808 ≤ p.idx ∧ p.idx < 9223372036854775808) (hp : ps[j]? = some p) (hr : r < 4) (hc : p'.cells = p.cells.set r u) (hpa : PathAt N0 p'.path p'.A p'.c W)
    (hf' : p'.fits ∧ p'.path.length ≤ 20) (hg' : h32 p'.path ∧ -9223372036854775808 ≤ p'.idx ∧ p'.idx < 9223372036854775808) (hkp : Bk W gb 38 #[.int .i64 s, .slice (some ⟨gq, 0, none⟩) m c']) (hka : Bk W ga 26 (bts J).toArray) (hb : Below w.heap.size w W) :
    BentTo w ga gb m c' (some ⟨gq, 0, none⟩) J (W.setCell ⟨gq, j * 4 + r, none⟩ u) := by
  obtain ⟨hin', hmv, _⟩ := hin.set hm hp hr hc hpa
  refine bent_as h1 h2 (by rw [List.length_set]; exact hm) hin' (fun q hq => ?_) (fun q hq => ?_) (hmv.bk hkp ?_) (hmv.bk hka ?_) (hb.trans (hmv.to_below hb.size (fun k o h => Nat.le_trans hN h.1)))
  · rcases List.mem_or_eq_of_mem_set hq with hq | rfl
    · exact hf q hq
    · exact hf'
  · rcases List.mem_or_eq_of_mem_set hq with hq | rfl
    · exact hg q hq
    · exact hg'
  · rintro ⟨_, cs, h⟩
    injection h with _ h3
    exact absurd h3 (by decide)
  · rintro ⟨_, cs, h⟩
    injection h with _ h3
    exact absurd h3 (by decide)
theorem bent_size {w W : World} {N0 ga gb gq m c' : Nat} {J : List UInt8} {ps : List PartV} {s s' : Int} (h1 : -9223372036854775808 ≤ s') (h2 : s' < 9223372036854775808) (hm : ps.length = m) (hne : ga ≠ gb) (hgb : w.heap.size ≤ gb) (hin : PartsIn N0 ps (.slice (some ⟨gq, 0, none⟩) m c') W)
    (hf : ∀ p ∈ ps, p.fits ∧ p.path.length ≤ 20) (hg : ∀ p ∈ ps, h32 p.path ∧ -9223372036854775808 ≤ p.idx ∧ p.idx < 9223372036854775808) (hkp : Bk W gb 38 #[.int .i64 s, .slice (some ⟨gq, 0, none⟩) m c']) (hka : Bk W ga 26 (bts J).toArray) (hb : Below w.heap.size w W) :
    BentTo w ga gb m c' (some ⟨gq, 0, none⟩) J (W.setCell ⟨gb, 0, none⟩ (.int .i64 s')) := by
  have hmv : Moves (fun k o => k = gb ∧ ∃ cs, o = .cells cs 38 (0, 0)) W (W.setCell ⟨gb, 0, none⟩ (.int .i64 s')) := Moves.setCell W ⟨gb, 0, none⟩ _ (fun o ho => ⟨rfl, _, (Option.some.inj (hkp.symm.trans ho)).symm⟩)
  refine bent_as h1 h2 hm ⟨hmv.own hin.row ?_, fun q hq => hmv.own (show World.ownsRow _ _ _ _ _ _ _ from hin.paths q hq) ?_⟩ hf hg (hkp.set_ 0 _) (hmv.bk hka ?_) (hb.trans (hmv.to_below hb.size (fun k o h => by rw [h.1]; exact hgb)))
  · rintro g cs _ ⟨_, cs', h⟩
    injection h with _ h3
    exact absurd h3 (by decide)
  · rintro g cs _ ⟨_, cs', h⟩
    injection h with _ h3
    exact absurd h3 (by decide)
  · rintro ⟨h, _⟩
    exact hne h
end Go.Proofs.YtdeikpifflkabaaDoor

namespace Go.Proofs.YtdeikpifflkabaaDoor
open Go.RowKit Go.Shelf
set_option linter.unusedVariables false
set_option linter.unusedSimpArgs false

/-- What is hashed for a part, for a proof. -/
def partT (n : Nat) (p : PartV) : List (List UInt8) := if 0 ≤ p.idx ∧ p.idx < (n : Int) then leafT p.e :: upT (leafF p.e) p.idx.toNat n p.path.reverse else []
def waysT (size : Int) (ps : List PartV) : List (List UInt8) := [] :: (if size < 0 ∨ 4096 < size then [] else ps.flatMap (partT size.toNat))
attribute [local irreducible] digF
theorem topT_ne {l : List Ent} (h : l ≠ []) : topT l ≠ [] := by
  by_cases h2 : 2 ≤ l.length
  · rw [topT_two h2]; simp [pairT]
  · rcases short_cases h2 with rfl | ⟨e, rfl⟩
    · exact absurd rfl h
    · rw [topT_one]; simp [leafT]
theorem find_has {l : List Ent} {key : ByteArray} {e : Ent} (hs : RiseK l) (he : e ∈ l) (hk : e.1 = key) : findF key l = (e.2, true) := by
  obtain ⟨i, hi⟩ := List.mem_iff_getElem?.1 he
  refine find_at hi hk (fun j v hj hv => ?_)
  rw [← hk]
  exact ltK_ne (hs j i v e hj hv hi)
theorem lead_down {l : List Ent} {n : Nat} {p : PartV} {L : List (List UInt8)} (hl : Fits l) (hf : p.e.1.size < 65536) (hp : h32 p.path) (hc : ¬ Clashes L) (hL : ∀ x ∈ textsE l, x ∈ L) (hT : ∀ x ∈ partT n p, x ∈ L) (h : p.leads (rootE l) n = true) : 0 ≤ p.idx ∧ p.idx < (n : Int) ∧ follow (dirs p.idx.toNat n) l = [p.e] := by
  obtain ⟨h1, h2⟩ := leads_range h
  refine ⟨h1, h2, ?_⟩
  have hT' := hT
  unfold partT at hT'
  rw [if_pos ⟨h1, h2⟩] at hT'
  unfold PartV.leads at h
  rw [show p.idx = ((p.idx.toNat : Nat) : Int) by omega, leadsF_in (by omega), Bool.and_eq_true] at h
  refine up_down p.path.reverse p.idx.toNat n l p.e L (by omega) hl hf (fun a ha => hp a (List.mem_reverse.1 ha)) hc hL (hT' _ (by simp)) (fun x hx => hT' x (by simp [hx])) (Prod.ext ?_ h.1)
  have := h.2
  simp at this
  exact this
theorem cons_none {l r : List Ent} {e : Ent} {key : ByteArray} (hs : RiseK l) (he : l = e :: r) (hk : ltK key e.1 = true) : findF key l = (noB, false) := by
  refine find_none (fun a ha => ?_)
  obtain ⟨j, hj⟩ := List.mem_iff_getElem?.1 ha
  cases j with
  | zero =>
    rw [he] at hj
    simp at hj
    subst hj
    exact (ltK_ne hk).symm
  | succ j =>
    have := hs 0 (j + 1) e a (by omega) (by rw [he]; simp) hj
    exact (ltK_ne (ltK_trans hk this)).symm
theorem snoc_none {l r : List Ent} {e : Ent} {key : ByteArray} (hs : RiseK l) (he : l = r ++ [e]) (hk : ltK e.1 key = true) : findF key l = (noB, false) := by
  refine find_none (fun a ha => ?_)
  obtain ⟨j, hj⟩ := List.mem_iff_getElem?.1 ha
  have hlast : l[r.length]? = some e := by rw [he]; simp
  have hjl : j < l.length := (List.getElem?_eq_some_iff.1 hj).1
  have hll : l.length = r.length + 1 := by rw [he]; simp
  by_cases h : j = r.length
  · subst h
    have : a = e := Option.some.inj (hj.symm.trans hlast)
    subst this
    exact ltK_ne hk
  · have := hs j r.length a e (by omega) hj hlast
    exact ltK_ne (ltK_trans this hk)
theorem mid_none {l r s : List Ent} {a b : Ent} {key : ByteArray} (hs : RiseK l) (he : l = r ++ a :: b :: s) (h1 : ltK a.1 key = true) (h2 : ltK key b.1 = true) : findF key l = (noB, false) := by
  refine find_none (fun x hx => ?_)
  obtain ⟨j, hj⟩ := List.mem_iff_getElem?.1 hx
  have ha : l[r.length]? = some a := by rw [he]; simp
  have hb : l[r.length + 1]? = some b := by rw [he, List.getElem?_append_right (by omega)]; simp
  rcases Nat.lt_trichotomy j r.length with h | h | h
  · exact ltK_ne (ltK_trans (hs j r.length x a h hj ha) h1)
  · subst h
    have : x = a := Option.some.inj (hj.symm.trans ha)
    subst this
    exact ltK_ne h1
  · by_cases h' : j = r.length + 1
    · subst h'
      have : x = b := Option.some.inj (hj.symm.trans hb)
      subst this
      exact (ltK_ne h2).symm
    · exact (ltK_ne (ltK_trans h2 (hs (r.length + 1) j b x (by omega) hb hj))).symm
/-- A bent proof proves nothing. -/
theorem bent {l : List Ent} {key : ByteArray} {size : Int} {ps : List PartV} {v : ByteArray} {is : Bool} (hs : RiseK l) (hl : Fits l) (hf : ∀ p ∈ ps, p.e.1.size < 65536) (hp : ∀ p ∈ ps, h32 p.path) (h : checkF (rootE l) key size ps = (v, is, true)) (hne : (v, is) ≠ findF key l) : Clashes (textsE l ++ waysT size ps) := by
  refine Classical.byContradiction fun hc => hne ?_
  have hL : ∀ x ∈ textsE l, x ∈ textsE l ++ waysT size ps := fun x hx => List.mem_append_left _ hx
  unfold checkF at h
  by_cases hsz : size < 0 ∨ 4096 < size
  · rw [if_pos hsz] at h
    cases h
  · rw [if_neg hsz] at h
    by_cases hall : ps.all (PartV.leads (rootE l) size.toNat) = true
    · rw [if_pos hall] at h
      have hlead : ∀ p ∈ ps, 0 ≤ p.idx ∧ p.idx < ((size.toNat : Nat) : Int) ∧ follow (dirs p.idx.toNat size.toNat) l = [p.e] := fun p hpm =>
        lead_down hl (hf p hpm) (hp p hpm) hc hL (fun x hx => List.mem_append_right _ (by
          unfold waysT
          rw [if_neg hsz]
          exact List.mem_cons_of_mem _ (List.mem_flatMap.2 ⟨p, hpm, hx⟩))) (List.all_eq_true.1 hall p hpm)
      match ps, h, hlead, hc with
      | [], h, _, hc =>
        simp only [sayF, Prod.mk.injEq, Bool.and_eq_true, beq_iff_eq] at h
        obtain ⟨rfl, rfl, _, h2⟩ := h
        rw [rootE_top] at h2
        have ht := not_clash hc (List.mem_append_left _ (top_mem l)) (List.mem_append_right _ (by unfold waysT; simp)) h2
        have : l = [] := Classical.byContradiction fun hn => topT_ne hn ht
        subst this
        rfl
      | [a], h, hlead, _ =>
        obtain ⟨h1, h2, h3⟩ := hlead a (by simp)
        rw [sayF] at h
        by_cases hk : a.e.1 = key
        · rw [if_pos hk] at h
          simp only [Prod.mk.injEq] at h
          obtain ⟨rfl, rfl, _⟩ := h
          exact (find_has hs (follow_sub (dirs a.idx.toNat size.toNat) l _ (by rw [h3]; simp)) hk).symm
        · rw [if_neg hk] at h
          simp only [Prod.mk.injEq, Bool.or_eq_true, Bool.and_eq_true, decide_eq_true_eq] at h
          obtain ⟨rfl, rfl, h4⟩ := h
          rcases h4 with ⟨h5, h6⟩ | ⟨h5, h6⟩
          · rw [h5] at h3
            obtain ⟨r, hr⟩ := follow_first _ l a.e h3
            exact (cons_none hs hr h6).symm
          · rw [h5, show ((size.toNat : Nat) : Int) - 1 = ((size.toNat - 1 : Nat) : Int) by omega, Int.toNat_natCast] at h3
            obtain ⟨r, hr⟩ := follow_last _ l a.e (by omega) h3
            exact (snoc_none hs hr h6).symm
      | [a, b], h, hlead, _ =>
        obtain ⟨h1, h2, h3⟩ := hlead a (by simp)
        obtain ⟨g1, g2, g3⟩ := hlead b (by simp)
        simp only [sayF, Prod.mk.injEq, Bool.and_eq_true, decide_eq_true_eq] at h
        obtain ⟨rfl, rfl, ⟨h4, h5⟩, h6⟩ := h
        rw [show b.idx.toNat = a.idx.toNat + 1 by omega] at g3
        obtain ⟨r, s, hrs⟩ := follow_two _ l a.idx.toNat a.e b.e (by omega) h3 g3
        exact (mid_none hs hrs h5 h6).symm
      | a :: b :: c :: r, h, _, _ =>
        simp [sayF] at h
    · rw [if_neg hall] at h
      cases h
end Go.Proofs.YtdeikpifflkabaaDoor

namespace Go.Proofs.YtdeikpifflkabaaDoor
open Go.RowKit
set_option linter.unusedVariables false
set_option linter.unusedSimpArgs false

section
variable {P : Program} {ops : Array Oper} {md : Region.Mode} {V : Nat → Value → World → Prop} {w0 : World} {a0 : Act}
theorem each_part2 {Q : Exit → Act → World → Prop} {hs zs ts : List Nat} (hB : partB md ops hs zs ts a0.tmps.size = true) (hts : (∀ t ∈ ts, t < ops.size) ∧ hs.length + ts.length = ops.size ∧ hs.Nodup) (hV : ∀ j v W W', V j v W → Below W.heap.size W W' → V j v W')
    (step : AllOf (fun i => ∀ o, ops[i]? = some o → ∀ a W, EachPre md ops V w0 a0 o a W → (∀ t, (∀ j ∈ hs, dstOf ops j ≠ some t) → a.tmps.getD t undef = a0.tmps.getD t undef) → EachTurn P ops V i o a W) hs)
    (hQ : ∀ c a d v w, Q (.panic c) (Act.put a d v) w → Q (.panic c) a w)
    (lazy : AllOf (fun z => ∀ o, ops[z]? = some o → ∀ a W, EachPre md ops V w0 a0 o a W → (∀ t, (∀ j ∈ hs, dstOf ops j ≠ some t) → a.tmps.getD t undef = a0.tmps.getD t undef) → ∃ v, Region.wanted o (yielded ops a.tmps) = true ∧ (∀ W', (execOp a.eval o).run P W' = .ok (.value v) W') ∧ V z v W) zs)
    (fin : ∀ a W, Below w0.heap.size w0 W → a.tmps.size = a0.tmps.size → a.defers = a0.defers → (∀ j d, j ∈ hs → dstOf ops j = some d → V j (a.tmps.getD d undef) W) → (∀ t, (∀ j ∈ hs, dstOf ops j ≠ some t) → a.tmps.getD t undef = a0.tmps.getD t undef) → wpList P ops Q (ts.filterMap (ops[·]?)) a W) :
    ∀ (f : Nat) (listed : Array Bool) (a : Act) (W : World), ups listed + f = hs.length → PartInv md ops hs listed → EachInv ops V w0 a0 listed a W → (∀ t, (∀ j ∈ hs, dstOf ops j ≠ some t) → a.tmps.getD t undef = a0.tmps.getD t undef) → wpAny P md ops Q (f + ts.length) listed a W := by
  simp only [partB, Bool.and_eq_true] at hB
  obtain ⟨⟨⟨hB1, hB2⟩, hB3, hB4⟩, hB5, hB6, hB7⟩ := hB
  have hlt : ∀ i ∈ hs, i < ops.size := fun i hi => by simpa using List.all_eq_true.1 hB3 i hi
  have hzs : ∀ z ∈ zs, z ∈ hs := fun z hz => by simpa using List.all_eq_true.1 hB2 z hz
  -- how many are up, where all heads are listed
  have upsAll : ∀ (listed : Array Bool), PartInv md ops hs listed → (∀ i ∈ hs, listed.getD i false = true) → listed = LS ops.size hs.contains := fun listed inv h =>
    listed_LS inv.size (fun i hi => by
      by_cases hm : i ∈ hs
      · rw [h i hm]; simp [hm]
      · rw [getD_both (inv.tail i hm hi)]; simp [hm])
  have upsLS : ups (LS ops.size hs.contains) = hs.length := by
    have h1 : (LS ops.size hs.contains).toList = (List.range ops.size).map hs.contains := by simp [LS]
    unfold ups
    rw [h1, List.count_eq_countP, List.countP_map]
    have h2 : (List.range ops.size).countP ((· == true) ∘ hs.contains) = ((List.range ops.size).filter fun i => hs.contains i).length := by
      rw [List.countP_eq_length_filter]
      congr 1
      apply List.filter_congr
      intro x _
      simp
    rw [h2]
    have h3 : ((List.range ops.size).filter fun i => hs.contains i).Perm hs := by
      refine (List.perm_ext_iff_of_nodup (List.nodup_range.filter _) hts.2.2).2 fun x => ?_
      simp only [List.mem_filter, List.mem_range, List.contains_iff_mem]
      exact ⟨fun h => h.2, fun h => ⟨hlt x h, h⟩⟩
    exact h3.length_eq
  intro f
  induction f with
  | zero =>
    intro listed a W hu hinv inv po
    have hall : ∀ i ∈ hs, listed.getD i false = true := by
      apply Classical.byContradiction
      intro h
      have hne : ∃ i, i ∈ hs ∧ listed.getD i true = false := by
        apply Classical.byContradiction
        intro h'
        apply h
        intro i hi
        cases hl : listed.getD i false with
        | true => rfl
        | false => exact absurd ⟨i, hi, getD_in (by rw [hinv.size]; exact hlt i hi) hl⟩ h'
      obtain ⟨i, hi, hun⟩ := hne
      -- then fewer are up
      have hlt2 : ups listed < hs.length := by
        have h1 := ups_set hun
        have h2 : ups (listed.setIfInBounds i true) ≤ ups (LS ops.size hs.contains) := by
          unfold ups
          have hle : ∀ (l l' : List Bool), l.length = l'.length → (∀ k : Nat, l[k]? = some true → l'[k]? = some true) → l.count true ≤ l'.count true := by
            intro l
            induction l with
            | nil => intro l' _ _; simp
            | cons x l ih =>
              intro l' hlen hk
              cases l' with
              | nil => simp at hlen
              | cons y l' =>
                have h0 := ih l' (by simpa using hlen) (fun k hk' => by have := hk (k + 1) (by simpa using hk'); simpa using this)
                have hx := hk 0
                cases x with
                | false => rw [List.count_cons]; simp; exact Nat.le_trans h0 (by rw [List.count_cons]; omega)
                | true =>
                  have : y = true := by simpa using hx rfl
                  subst this
                  rw [List.count_cons, List.count_cons]
                  simp
                  exact h0
          refine hle _ _ (by simp [LS, hinv.size]) (fun k hk => ?_)
          have hks : k < listed.size := by
            have := (List.getElem?_eq_some_iff.1 hk).1
            simpa using this
          by_cases hm : k ∈ hs
          · simp [LS, hm]
            rw [← hinv.size]
            exact ⟨k, List.getElem?_range hks, hm⟩
          · exfalso
            have h3 := hinv.tail k hm (by rw [← hinv.size]; exact hks)
            have hik : i ≠ k := by rintro rfl; exact hm hi
            have h5 : listed[k]? = some true := by simpa [List.getElem?_set, hik] using hk
            simp [hks] at h3 h5
            rw [h3] at h5
            cases h5
        rw [upsLS] at h2
        omega
      omega
    rw [upsAll listed hinv hall, Nat.zero_add]
    exact wpAny_of_seqL ts _ a W hB7 (fin a W inv.b inv.size inv.defers (fun j d hj hd => inv.val j d hd (hall j hj)) po) hts.1
  | succ f ih =>
    intro listed a W hu hinv inv po
    rw [show f + 1 + ts.length = (f + ts.length) + 1 by omega]
    by_cases hbut : ∀ i, i < ops.size → (i ∈ hs ∧ i ∉ zs) → listed.getD i false = true
    · -- all but lazies: there is one that is not listed
      have hz : ∃ z, z ∈ zs ∧ listed.getD z true = false := by
        apply Classical.byContradiction
        intro h
        have hall : ∀ i ∈ hs, listed.getD i false = true := fun i hi => by
          by_cases hiz : i ∈ zs
          · cases hl : listed.getD i false with
            | true => rfl
            | false => exact absurd ⟨i, hiz, getD_in (by rw [hinv.size]; exact hlt i hi) hl⟩ h
          · exact hbut i (hlt i hi) ⟨hi, hiz⟩
        have h1 := upsAll listed hinv hall
        rw [h1, upsLS] at hu
        omega
      obtain ⟨z, hzz, hzt⟩ := hz
      have hzh := hzs z hzz
      obtain ⟨oz, hzo⟩ : ∃ o, ops[z]? = some o := ⟨_, Array.getElem?_eq_getElem (hlt z hzh)⟩
      obtain ⟨d, hd, hdn, hdist, haf⟩ := headB_at (List.all_eq_true.1 hB1 z hzh) hzo
      have hrd : z ∈ Region.ready md ops listed := mem_ready.2 ⟨hzt, _, hzo, fun e he hb => by
        obtain ⟨h1, h2, _⟩ := haf e he hb
        exact hbut e.on (hlt _ h1) ⟨h1, h2⟩⟩
      obtain ⟨v, hw, hrun, hv⟩ := AllOf.at_ lazy hzz _ hzo a W ⟨inv.b, inv.size, fun j dj hj hwait => inv.val j dj hj (by
        obtain ⟨e, he, hb⟩ := Array.any_eq_true'.1 hwait
        simp only [Bool.and_eq_true, beq_iff_eq] at hb
        rw [← hb.2]
        obtain ⟨h1, h2, _⟩ := haf e he hb.1
        exact hbut e.on (hlt _ h1) ⟨h1, h2⟩), inv.old⟩ po
      have hfr : Region.free md ops listed z = true := free_more (List.all_eq_true.1 hB6 z hzz) (fun j hj => by
        by_cases hjs : j < ops.size
        · have hj2 : (hs.contains j && !zs.contains j) = true := by simpa [LS, hjs] using hj
          have hj3 : j ∈ hs ∧ j ∉ zs := by simpa using hj2
          have := hbut j hjs hj3
          simp [show j < listed.size by rw [hinv.size]; exact hjs] at this ⊢
          exact this
        · simp [Array.getElem?_eq_none (show listed.size ≤ j by rw [hinv.size]; omega)])
      refine wpAny_take hzo hB4 hfr (by simpa using hrd) (fun c a w => hQ c a _ _ w) (.inl ⟨hw, hrun⟩) ?_
      exact ih _ _ _ (by rw [ups_set hzt]; omega) (hinv.set hrd hzh) (inv.step hd hdn hdist hV hzo hv (Below.refl _ _)) (fun t ht => by rw [hd, put_far (fun e => ht z hzh (by rw [← e]; unfold dstOf; rw [hzo]; exact hd))]; exact po t ht)
    · obtain ⟨i1, hi1, hi1h, hun1⟩ := not_all hinv.size hbut
      refine ⟨fun hr => ?_, fun i hi => ?_⟩
      · exfalso
        have key : ∀ i, i < ops.size → (i ∈ hs ∧ i ∉ zs) → listed.getD i false = true := by
          intro i
          induction i using Nat.strongRecOn with
          | _ i ihh =>
            intro hin him
            cases hl : listed.getD i false with
            | true => rfl
            | false =>
              exfalso
              obtain ⟨oi, hio⟩ : ∃ o, ops[i]? = some o := ⟨_, Array.getElem?_eq_getElem hin⟩
              obtain ⟨d, hd, _, _, haf⟩ := headB_at (List.all_eq_true.1 hB1 i him.1) hio
              have : i ∈ Region.ready md ops listed := mem_ready.2 ⟨getD_in (by rw [hinv.size]; omega) hl, _, hio, fun e he hb => by
                obtain ⟨h1, h2, h3⟩ := haf e he hb
                rcases h3 with h3 | h3
                · exact absurd h3 him.2
                · exact ihh e.on h3 (hlt _ h1) ⟨h1, h2⟩⟩
              rw [hr] at this
              cases this
        exact hbut key
      · obtain ⟨hun2, o, ho, hall⟩ := mem_ready.1 hi
        have hios : i < ops.size := (Array.getElem?_eq_some_iff.1 ho).1
        have hin : i ∈ hs := by
          apply Classical.byContradiction
          intro hn
          have h1 := List.all_eq_true.1 hB5 i (List.mem_range.2 hios)
          rw [Bool.or_eq_true] at h1
          rcases h1 with h1 | h1
          · exact hn (by simpa using h1)
          · have h2 := List.all_eq_true.1 h1 i1 hi1h.1
            rw [Bool.or_eq_true] at h2
            rcases h2 with h2 | h2
            · exact hi1h.2 (by simpa using h2)
            · have := waitsT_listed hinv _ i i1 h2 (fun ot hot e he hb => by
                have : ot = o := Option.some.inj (hot.symm.trans ho)
                subst this
                exact hall e he hb)
              rw [getD_both hun1] at this
              cases this
        obtain ⟨d, hd, hdn, hdist, _⟩ := headB_at (List.all_eq_true.1 hB1 i hin) ho
        rcases AllOf.at_ step hin o ho a W ⟨inv.b, inv.size, fun j dj hj hwait => inv.val j dj hj (by
          obtain ⟨e, he, hb⟩ := Array.any_eq_true'.1 hwait
          simp only [Bool.and_eq_true, beq_iff_eq] at hb
          rw [← hb.2]
          exact hall e he hb.1), inv.old⟩ po with ⟨hw, hdo⟩ | ⟨hw, hsk⟩
        rotate_left
        · unfold wpOp
          simp only [ho, hw, Bool.false_eq_true, if_false]
          exact ih _ _ _ (by rw [ups_set hun2]; omega) (hinv.set hi hin) (inv.step hd hdn hdist hV ho hsk (Below.refl _ _)) (fun t ht => by rw [hd, put_far (fun e => ht i hin (by rw [← e]; unfold dstOf; rw [ho]; exact hd))]; exact po t ht)
        unfold wpOp
        simp only [ho, hw, if_true]
        refine .inl (Oper.wp_mono ?_ (hdo Q))
        rintro a' W' ⟨v, rfl, hv, hb⟩
        exact ih _ _ _ (by rw [ups_set hun2]; omega) (hinv.set hi hin) (inv.step hd hdn hdist hV ho hv hb) (fun t ht => by rw [hd, put_far (fun e => ht i hin (by rw [← e]; unfold dstOf; rw [ho]; exact hd))]; exact po t ht)
/-- The law, as the model's walk over orders. -/
theorem any_part2 {Q : Exit → Act → World → Prop} {w : World} {l : List Oper} (hs zs ts : List Nat) (V : Nat → Value → World → Prop) (hB : (partB .any l.toArray hs zs ts a0.tmps.size && (ts.all (fun t => decide (t < l.length)) && (decide (hs.length + ts.length = l.length) && decide hs.Nodup))) = true) (hV : ∀ j v W W', V j v W → Below W.heap.size W W' → V j v W')
    (turns : AllOf (fun i => ∀ o, l.toArray[i]? = some o → ∀ a W, EachPre .any l.toArray V w.drew a0 o a W → (∀ t, (∀ j ∈ hs, dstOf l.toArray j ≠ some t) → a.tmps.getD t undef = a0.tmps.getD t undef) → EachTurn P l.toArray V i o a W) hs)
    (hQ : ∀ c a d v w, Q (.panic c) (Act.put a d v) w → Q (.panic c) a w)
    (lazy : AllOf (fun z => ∀ o, l.toArray[z]? = some o → ∀ a W, EachPre .any l.toArray V w.drew a0 o a W → (∀ t, (∀ j ∈ hs, dstOf l.toArray j ≠ some t) → a.tmps.getD t undef = a0.tmps.getD t undef) → ∃ v, Region.wanted o (yielded l.toArray a.tmps) = true ∧ (∀ W', (execOp a.eval o).run P W' = .ok (.value v) W') ∧ V z v W) zs)
    (fin : ∀ a W, Below w.drew.heap.size w.drew W → a.tmps.size = a0.tmps.size → a.defers = a0.defers → (∀ j d, j ∈ hs → dstOf l.toArray j = some d → V j (a.tmps.getD d undef) W) → (∀ t, (∀ j ∈ hs, dstOf l.toArray j ≠ some t) → a.tmps.getD t undef = a0.tmps.getD t undef) → wpList P l.toArray Q (ts.filterMap (l.toArray[·]?)) a W) :
    wpAny P .any l.toArray Q l.toArray.size (Array.replicate l.toArray.size false) a0 w.drew := by
  simp only [Bool.and_eq_true, decide_eq_true_eq] at hB
  obtain ⟨h1, h2, h3, h4⟩ := hB
  have hsz : l.toArray.size = l.length := by simp
  have inv0 : PartInv .any l.toArray hs (Array.replicate l.toArray.size false) :=
    ⟨by simp, fun j oj _ hl => (by rw [getD_replicate_false] at hl; cases hl), fun t _ ht => getD_in (by simpa using ht) (getD_replicate_false _ _)⟩
  have H := each_part2 (P := P) (md := .any) (Q := Q) (w0 := w.drew) h1 ⟨fun t ht => by rw [hsz]; simpa using List.all_eq_true.1 h2 t ht, by rw [hsz]; exact h3, h4⟩ hV turns hQ lazy fin hs.length (Array.replicate l.toArray.size false) a0 w.drew (by simp [ups, List.count_replicate]) inv0 ⟨by simp, Below.refl _ _, rfl, rfl, fun j d _ hl => (by rw [getD_replicate_false] at hl; cases hl), fun _ _ => rfl⟩ (fun _ _ => rfl)
  rw [show hs.length + ts.length = l.toArray.size by rw [hsz]; exact h3] at H
  exact H
theorem wp_region_part2 {id : Nat} {Q : Exit → Act → World → Prop} {w : World} {l : List Oper} (hs zs ts : List Nat) (V : Nat → Value → World → Prop) (hm : P.follows .mixedOrders = true) (hB : (partB .any l.toArray hs zs ts a0.tmps.size && (ts.all (fun t => decide (t < l.length)) && (decide (hs.length + ts.length = l.length) && decide hs.Nodup))) = true) (hV : ∀ j v W W', V j v W → Below W.heap.size W W' → V j v W')
    (turns : AllOf (fun i => ∀ o, l.toArray[i]? = some o → ∀ a W, EachPre .any l.toArray V w.drew a0 o a W → (∀ t, (∀ j ∈ hs, dstOf l.toArray j ≠ some t) → a.tmps.getD t undef = a0.tmps.getD t undef) → EachTurn P l.toArray V i o a W) hs)
    (hQ : ∀ c a d v w, Q (.panic c) (Act.put a d v) w → Q (.panic c) a w)
    (lazy : AllOf (fun z => ∀ o, l.toArray[z]? = some o → ∀ a W, EachPre .any l.toArray V w.drew a0 o a W → (∀ t, (∀ j ∈ hs, dstOf l.toArray j ≠ some t) → a.tmps.getD t undef = a0.tmps.getD t undef) → ∃ v, Region.wanted o (yielded l.toArray a.tmps) = true ∧ (∀ W', (execOp a.eval o).run P W' = .ok (.value v) W') ∧ V z v W) zs)
    (fin : ∀ a W, Below w.drew.heap.size w.drew W → a.tmps.size = a0.tmps.size → a.defers = a0.defers → (∀ j d, j ∈ hs → dstOf l.toArray j = some d → V j (a.tmps.getD d undef) W) → (∀ t, (∀ j ∈ hs, dstOf l.toArray j ≠ some t) → a.tmps.getD t undef = a0.tmps.getD t undef) → wpList P l.toArray Q (ts.filterMap (l.toArray[·]?)) a W) :
    (Code.region id l.toArray true).wp P Q a0 w :=
  wp_region_any hm (any_part2 hs zs ts V hB hV turns hQ lazy fin)

theorem no_dst_in {hs : List Nat} {t : Nat} (h : (hs.all fun j => dstOf ops j != some t) = true) : ∀ j ∈ hs, dstOf ops j ≠ some t := fun j hj e => by
  have := List.all_eq_true.1 h j hj
  rw [e] at this
  simp at this
end
end Go.Proofs.YtdeikpifflkabaaDoor

namespace Go.Proofs.YtdeikpifflkabaaDoor
open Go.RowKit Go.Shelf
set_option linter.unusedVariables false
set_option linter.unusedSimpArgs false

theorem upT_le {h : List UInt8} : ∀ (r : List (List UInt8)) (i n : Nat), (upT h i n r).length ≤ r.length
  | [], i, n => by rw [upT]; simp
  | x :: r, i, n => by
    rw [upT]
    split
    · simp
    · split
      · have := upT_le (h := h) r i (splitN n)
        rw [List.length_append, List.length_singleton, List.length_cons]
        omega
      · have := upT_le (h := h) r (i - splitN n) (n - splitN n)
        rw [List.length_append, List.length_singleton, List.length_cons]
        omega
theorem upT_short {h : List UInt8} {i n : Nat} {r : List (List UInt8)} (hn : n ≤ 1 ∨ r = []) : upT h i n r = [] := by
  cases r with
  | nil => rw [upT]
  | cons x r =>
    rcases hn with hn | hn
    · rw [upT, if_pos hn]
    · cases hn
theorem rds_nil (N : Nat) (W : World) : RdsAt N [] (.slice none 0 0) W := ⟨[], World.ownsRow_nil _ _ _ _, rfl, fun i x hx => by simp at hx⟩

attribute [local irreducible] digF
set_option maxRecDepth 100000 in
set_option maxHeartbeats 8000000 in
theorem uptexts_any : ∀ (m : Nat) (path : List (List UInt8)) (h : List UInt8) (i n : Nat) (A : Option Addr) (c : Nat) (w : World), path.length = m → m ≤ 1000 → m ≤ c → c ≤ maxLen → h32 path → h.length = 32 → n ≤ 4096 → i ≤ 4096 → Sl w w.heap.size 32 A path.length (hCells path) →
    Calls Tryd.prog 41 #[.agg (bts h).toArray, .int .i64 (i : Int), .int .i64 (n : Int), .slice A m c] w fun e w' => ∃ v, e = .returned v ∧ RdsAt w.heap.size (upT h i n path.reverse) v w' ∧ Below w.heap.size w w' := by
  intro m
  induction m with
  | zero =>
    intro path h i n A c w hpl hm hmc hcm hp32 hh hn hi hA
    obtain rfl : path = [] := List.eq_nil_of_length_eq_zero hpl
    have HUT : Hid (upT h i n [].reverse = []) := Lib.hid (upT_short (.inr rfl))
    by_cases hn1 : n ≤ 1
    · have e1 : decide ((n : Int) ≤ 1) = true := decide_eq_true (by omega)
      have e1' : decide (n ≤ 1) = true := decide_eq_true hn1
      go_enter Tryd.func41, Tryd.ntmps41
      go_wp2_with fail
      go_ret
      exact ⟨_, rfl, by rw [HUT.out]; exact rds_nil _ _, (by (first | assumption | (repeat (first | exact Below.refl _ _ | assumption | apply Below.drew | apply below_drewN | (refine Below.setCell ?_ (by (try simp) <;> omega) _) | (refine Below.alloc ?_ (by (try simp) <;> omega) _)))))⟩
    · have e1 : decide ((n : Int) ≤ 1) = false := decide_eq_false (by omega)
      have e1' : decide (n ≤ 1) = false := decide_eq_false hn1
      go_enter Tryd.func41, Tryd.ntmps41
      go_wp2_with fail
      go_ret
      exact ⟨_, rfl, by rw [HUT.out]; exact rds_nil _ _, (by (first | assumption | (repeat (first | exact Below.refl _ _ | assumption | apply Below.drew | apply below_drewN | (refine Below.setCell ?_ (by (try simp) <;> omega) _) | (refine Below.alloc ?_ (by (try simp) <;> omega) _)))))⟩
  | succ m ih =>
    intro path h i n A c w hpl hm hmc hcm hp32 hh hn hi hA
    have hzh := zero_hash
    have h0l : (bts hash0).length = 32 := by rw [bts_len, hash0_len]
    have hbh : (bts h).length = 32 := by rw [bts_len, hh]
    obtain ⟨i0, hii, hz0, hz1, hz2⟩ := info_parts slu8_info
    obtain ⟨ga, hga⟩ : ∃ g, w.heap.size = g := ⟨_, rfl⟩
    have HGA := Lib.hid hga
    have HA := Lib.hid hA
    have HP32 := Lib.hid hp32
    have IH := Lib.hid ih
    have HCM := Lib.hid hcm
    clear hA hp32 ih hcm
    by_cases hn1 : n ≤ 1
    · have HUT : Hid (upT h i n path.reverse = []) := Lib.hid (upT_short (.inl hn1))
      have e1 : decide ((n : Int) ≤ 1) = true := decide_eq_true (by omega)
      have e1' : decide (n ≤ 1) = true := decide_eq_true hn1
      clear hga
      go_enter Tryd.func41, Tryd.ntmps41
      go_wp2_with fail
      go_ret
      exact ⟨_, rfl, by rw [HUT.out]; exact rds_nil _ _, (by (first | assumption | (repeat (first | exact Below.refl _ _ | assumption | apply Below.drew | apply below_drewN | (refine Below.setCell ?_ (by (try simp) <;> omega) _) | (refine Below.alloc ?_ (by (try simp) <;> omega) _)))))⟩
    have e1 : decide ((n : Int) ≤ 1) = false := decide_eq_false (by omega)
    have e1' : decide (n ≤ 1) = false := decide_eq_false hn1
    obtain ⟨b, off, x, rfl, hb, hx, hrg⟩ := HA.out.hsh HP32.out (k := m) (by omega)
    have hxl : x.length = 32 := HP32.out.at_ hx
    have hbx : (bts x).length = 32 := by rw [bts_len, hxl]
    have hrev := path_last hpl hx
    have htl : (path.take m).length = m := by rw [List.length_take]; omega
    obtain ⟨k, hk⟩ : ∃ k, splitN n = k := ⟨_, rfl⟩
    have hkn := splitN_lt (n := n) (by omega)
    have hk1 := splitN_pos n
    have hsp := rsplit_any n (by omega) (by omega)
    rw [hk] at hkn hk1 hsp
    have HSP := Lib.hid hsp
    have HRG := Lib.hid hrg
    clear hsp hx hrg
    go_enter Tryd.func41, Tryd.ntmps41
    go_upto_region 1 with fail
    have K0 := Bk.new w 26 (bts h).toArray
    have L2 : Below w.heap.size w (w.alloc (.cells (bts h).toArray 26)) := (by (first | assumption | (repeat (first | exact Below.refl _ _ | assumption | apply Below.drew | apply below_drewN | (refine Below.setCell ?_ (by (try simp) <;> omega) _) | (refine Below.alloc ?_ (by (try simp) <;> omega) _)))))
    obtain ⟨w2, hw2⟩ : ∃ W, w.alloc (.cells (bts h).toArray 26) = W := ⟨_, rfl⟩
    have rX := rangeAt_below HRG.out (hw2 ▸ L2) hb
    rw [hw2] at K0 L2 ⊢
    rw [hga] at K0
    have HK0 := Lib.hid K0
    have HL2 := Lib.hid L2
    have HRX := Lib.hid rX
    clear hw2 K0 L2 hga rX
    have e2 : ((m + 1 : Nat) : Int) - 1 = (m : Int) := by omega
    have e2' : (m : Int) < ((m + 1 : Nat) : Int) := by omega
    go_upto_region 6 with (first
      | (go_at_call 30; with_reducible refine (HSP.out _).mono ?_; rintro en w1 ⟨rfl, hw1⟩; rw [hw1]; clear hw1)
      | (refine wpList_val (by rfl) (run_ldh _ (by with_reducible rfl) b (off + m * 32) (by rfl) x hxl (by exact HRX.out)) ?_)
      | (refine wpList_puts (by rfl) 26 _ _ (by with_reducible rfl) _ 0 (by rfl) (bts x) (by rfl) 26 (bts hash0) (by exact Bk.new _ _ _) 32 hbx (by rw [h0l]; omega) hi_hash bts_all ?_; intro w3 hb_ hm_ hz_; rw [put_hash0 _ hxl] at hb_; have KX3 := Lib.hid hb_; have M3 := Lib.hid hm_; clear hb_ hm_ hz_))
    have L23 : Below w2.heap.size w2 w3 := ((Below.refl w2.heap.size w2).alloc (Nat.le_refl _) (.cells (bts hash0).toArray 26)).trans (M3.out.to_below (by simp) (fun k_ o e => by rw [e]; exact Nat.le_refl _))
    have KX_ := KX3.out
    obtain ⟨g2, hg2⟩ : ∃ g, w2.heap.size = g := ⟨_, rfl⟩
    rw [hg2] at KX_ ⊢
    have KX := Lib.hid KX_
    have KK0 := Lib.hid (HK0.out.below L23 HK0.out.lt)
    have KL3 := Lib.hid (HL2.out.trans (L23.mono HL2.out.size))
    clear KX_ KX3 M3 L23 hg2 HK0 HL2 HRX HSP e1 e1' e2 e2'
    by_cases hik : i < k
    · have e3 : decide ((i : Int) < (k : Int)) = true := decide_eq_true (by omega)
      obtain ⟨U, hU⟩ : ∃ U, (upR h i k (path.take m).reverse).1 = U := ⟨_, rfl⟩
      obtain ⟨bo, hbo⟩ : ∃ b, (upR h i k (path.take m).reverse).2 = b := ⟨_, rfl⟩
      have hUl : U.length = 32 := by rw [← hU]; exact upR_len hh _ _ _
      have hbU : (bts U).length = 32 := by rw [bts_len, hUl]
      obtain ⟨L1, hL1⟩ : ∃ L, upT h i k (path.take m).reverse = L := ⟨_, rfl⟩
      have hL1l : L1.length ≤ 1000 := by
        rw [← hL1]
        have := upT_le (h := h) (path.take m).reverse i k
        rw [List.length_reverse, List.length_take] at this
        omega
      have HUT : Hid (upT h i n path.reverse = L1 ++ [pairT U x]) := Lib.hid (by rw [hrev, upT, if_neg (by omega), if_pos (by rw [hk]; exact hik), hk, hL1, hU])
      have HUP := Lib.hid (show ∀ W, Below w.heap.size w W → Calls Tryd.prog 56 #[.agg (bts h).toArray, .int .i64 (i : Int), .int .i64 (k : Int), .slice (some ⟨b, off, none⟩) m c] W fun e w' => e = .returned (.tuple #[.agg (bts U).toArray, .bool bo]) ∧ Below W.heap.size W w' from fun W hW => by
        have := up_any m (path.take m) h i k (some ⟨b, off, none⟩) c W htl (by omega) (by omega) HCM.out (HP32.out.take m) hh (by omega) (by omega) (by omega) (((HA.out.htake HP32.out (by omega)).below hW).more hW.size)
        rwa [hU, hbo] at this)
      have HREC := Lib.hid (show ∀ W, Below w.heap.size w W → Calls Tryd.prog 41 #[.agg (bts h).toArray, .int .i64 (i : Int), .int .i64 (k : Int), .slice (some ⟨b, off, none⟩) m c] W fun e w' => ∃ v, e = .returned v ∧ RdsAt ga L1 v w' ∧ Below W.heap.size W w' from fun W hW => by
        refine (IH.out (path.take m) h i k (some ⟨b, off, none⟩) c W htl (by omega) (by omega) HCM.out (HP32.out.take m) hh (by omega) (by omega) (((HA.out.htake HP32.out (by omega)).below hW).more hW.size)).mono ?_
        rintro e w' ⟨v, rfl, hq, hb⟩
        rw [hL1] at hq
        exact ⟨v, rfl, hq.low (by have := hW.size; have := HGA.out; omega), hb⟩)
      clear hU hbo hL1 hrev hk
      go_wp2_with (refine wpList_val (by rfl) (run_ldh _ (by with_reducible rfl) ga 0 (by rfl) h hh (by exact KK0.out.all)) ?_)
      with_reducible refine (HUP.out _ KL3.out).mono ?_
      rintro en w4 ⟨rfl, hb4⟩
      have KK0_4 := Lib.hid (KK0.out.below hb4 KK0.out.lt)
      have KX_4 := Lib.hid (KX.out.below hb4 KX.out.lt)
      have KL4 := Lib.hid (KL3.out.trans (hb4.mono KL3.out.size))
      clear hb4 HUP KK0 KX KL3
      go_upto_region 8 with (refine wpList_puts (by rfl) 26 _ _ (by with_reducible rfl) _ 0 (by rfl) (bts U) (by rfl) 26 (bts hash0) (by exact Bk.new _ _ _) 32 hbU (by rw [h0l]; omega) hi_hash bts_all ?_; intro w5 hb_ hm_ hz_; rw [put_hash0 _ hUl] at hb_; have KU5 := Lib.hid hb_; have M5 := Lib.hid hm_; clear hb_ hm_ hz_)
      have L45 : Below w4.heap.size w4 w5 := ((Below.refl w4.heap.size w4).alloc (Nat.le_refl _) (.cells (bts hash0).toArray 26)).trans (M5.out.to_below (by simp) (fun k_ o e => by rw [e]; exact Nat.le_refl _))
      have KU_ := KU5.out
      obtain ⟨g4, hg4⟩ : ∃ g, w4.heap.size = g := ⟨_, rfl⟩
      rw [hg4] at KU_ ⊢
      have KU := Lib.hid KU_
      have KK0 := Lib.hid (KK0_4.out.below L45 KK0_4.out.lt)
      have KX := Lib.hid (KX_4.out.below L45 KX_4.out.lt)
      have KL5 := Lib.hid (KL4.out.trans (L45.mono KL4.out.size))
      clear KU_ KU5 M5 L45 hg4 KK0_4 KX_4 KL4
      have HW : Hid (∀ W, Below w5.drew.heap.size w5.drew W → Bk W ga 26 (bts h).toArray ∧ Bk W g2 26 (bts x).toArray ∧ Bk W g4 26 (bts U).toArray ∧ Below w.heap.size w W ∧ ga ≤ W.heap.size) := Lib.hid (fun W hb =>
        have hd : Below w5.heap.size w5 w5.drew := (Below.refl _ _).drew
        have h0 : Below w5.heap.size w5 W := hd.trans (hb.mono (Nat.le_refl _))
        have h1 : Below w.heap.size w W := KL5.out.trans (h0.mono KL5.out.size)
        ⟨KK0.out.below h0 KK0.out.lt, KX.out.below h0 KX.out.lt, KU.out.below h0 KU.out.lt, h1, by have := h1.size; have := HGA.out; omega⟩)
      refine wp_region_part [0, 1, 2, 3, 4, 5, 6, 7, 8] [] [9, 10] (lstV [fun v _ => v = .agg (bts h).toArray, fun v _ => v = .int .i64 (i : Int), fun v _ => v = .int .i64 (k : Int), fun v _ => v = .slice (some ⟨b, off, none⟩) m c, RdsAt ga L1, fun v _ => v = .agg (bts U).toArray, fun v _ => v = .agg (bts x).toArray, RdAt (pairT U x), RdOne ga (pairT U x)]) (by kernel_rfl) (by kernel_rfl) (lstV_on (by repeat' (first | exact forall_nil | refine forall_cons ?_ ?_ | exact stays_rds _ _ | exact stays_rd _ | exact stays_rdone _ _ | exact stays_eq _))) ?turns ?hq trivial ?fin
      case hq => intro c_ a_ d_ v_ w_ h_; cases d_ <;> exact h_
      case turns =>
        refine ⟨fun o ho a W pre => ?_, fun o ho a W pre => ?_, fun o ho a W pre => ?_, fun o ho a W pre => ?_, fun o ho a W pre => ?_, fun o ho a W pre => ?_, fun o ho a W pre => ?_, fun o ho a W pre => ?_, fun o ho a W pre => ?_, trivial⟩
        all_goals (obtain rfl := (Option.some.inj ho).symm; clear ho)
        · refine .inl ?_
          have q0 : a.eval (.tmp 4) = .pointer (some ⟨ga, 0, none⟩) := pre.was 4 (by kernel_rfl) rfl
          exact does_val (want_none rfl) (run_ldh _ rfl ga 0 q0 h hh (HW.out W pre.b).1.all) rfl
        · (refine .inl ?_; have q0 : a.eval (.tmp 1) = .int .i64 (i : Int) := pre.was 1 (by kernel_rfl) rfl; rw [Act.eval, Array.getD_eq_getD_getElem?] at q0; exact does_val (want_none rfl) (by go_simp) rfl)
        · (refine .inl ?_; have q0 : a.eval (.tmp 9) = .int .i64 (k : Int) := pre.was 9 (by kernel_rfl) rfl; rw [Act.eval, Array.getD_eq_getD_getElem?] at q0; exact does_val (want_none rfl) (by go_simp) rfl)
        · (refine .inl ?_; have q0 : a.eval (.tmp 11) = .slice (some ⟨b, off, none⟩) m c := pre.was 11 (by kernel_rfl) rfl; rw [Act.eval, Array.getD_eq_getD_getElem?] at q0; exact does_val (want_none rfl) (by go_simp) rfl)
        · refine .inl ?_
          have q0 : a.eval (.tmp 47) = .agg (bts h).toArray := pre.val 0 47 (by kernel_rfl) (by kernel_rfl)
          have q1 : a.eval (.tmp 48) = .int .i64 (i : Int) := pre.val 1 48 (by kernel_rfl) (by kernel_rfl)
          have q2 : a.eval (.tmp 49) = .int .i64 (k : Int) := pre.val 2 49 (by kernel_rfl) (by kernel_rfl)
          have q3 : a.eval (.tmp 50) = .slice (some ⟨b, off, none⟩) m c := pre.val 3 50 (by kernel_rfl) (by kernel_rfl)
          rw [Act.eval, Array.getD_eq_getD_getElem?] at q0 q1 q2 q3
          exact does_callx (want_none rfl) (by go_simp) (HREC.out W (HW.out W pre.b).2.2.2.1)
        · refine .inl ?_
          have q0 : a.eval (.tmp 12) = .pointer (some ⟨g4, 0, none⟩) := pre.was 12 (by kernel_rfl) rfl
          exact does_val (want_none rfl) (run_ldh _ rfl g4 0 q0 U hUl (HW.out W pre.b).2.2.1.all) rfl
        · refine .inl ?_
          have q0 : a.eval (.tmp 10) = .pointer (some ⟨g2, 0, none⟩) := pre.was 10 (by kernel_rfl) rfl
          exact does_val (want_none rfl) (run_ldh _ rfl g2 0 q0 x hxl (HW.out W pre.b).2.1.all) rfl
        · refine .inl ?_
          have q0 : a.eval (.tmp 52) = .agg (bts U).toArray := pre.val 5 52 (by kernel_rfl) (by kernel_rfl)
          have q1 : a.eval (.tmp 53) = .agg (bts x).toArray := pre.val 6 53 (by kernel_rfl) (by kernel_rfl)
          rw [Act.eval, Array.getD_eq_getD_getElem?] at q0 q1
          refine does_callx (want_none rfl) (by go_simp) ((twoText_any U x hUl hxl W).mono fun e W' h => ?_)
          obtain ⟨v, rfl, h1, h2⟩ := h
          exact ⟨v, rfl, own8_rd h1, h2⟩
        · refine .inl ?_
          obtain ⟨A2, c2, e2, hx2⟩ : RdAt (pairT U x) (a.eval (.tmp 54)) W := pre.val 7 54 (by kernel_rfl) (by kernel_rfl)
          have hrd : RdAt (pairT U x) (a.eval (.tmp 54)) W := pre.val 7 54 (by kernel_rfl) (by kernel_rfl)
          rw [e2] at hrd
          obtain ⟨m2, hm2⟩ : ∃ m, (bts (pairT U x)).length = m := ⟨_, rfl⟩
          rw [hm2] at e2 hrd
          clear hx2 hm2
          have q0 := e2
          rw [Act.eval, Array.getD_eq_getD_getElem?] at q0
          have hb_ : Below W.heap.size W (W.alloc (.cells #[.slice A2 m2 c2] 59)) := (by (first | assumption | (repeat (first | exact Below.refl _ _ | assumption | apply Below.drew | apply below_drewN | (refine Below.setCell ?_ (by (try simp) <;> omega) _) | (refine Below.alloc ?_ (by (try simp) <;> omega) _)))))
          have hK := Bk.new W 59 #[.slice A2 m2 c2]
          exact does_new (want_none rfl) (by go_simp) hb_ ⟨_, _, rfl, ⟨rfl, fun _ => ⟨W.heap.size, 0, rfl, hK.lt, fun j u hu => by rw [Nat.zero_add, hK.cell, List.getElem?_toArray]; exact hu⟩⟩, Rd.below hrd hb_ (Nat.le_refl _)⟩
      case fin =>
        intro a W hbW hsz2 hd hv ho
        obtain ⟨_, _, _, hbw, hbs⟩ := HW.out W hbW
        obtain ⟨xs, x1, x2, x3⟩ : RdsAt ga L1 (a.eval (.tmp 51)) W := hv 4 51 (by decide) (by kernel_rfl)
        obtain ⟨A2, y, q40, s1, s2⟩ : RdOne ga (pairT U x) (a.eval (.tmp 55)) W := hv 8 55 (by decide) (by kernel_rfl)
        obtain ⟨v30, q30⟩ : ∃ v, a.eval (.tmp 51) = v := ⟨_, rfl⟩
        rw [q30] at x1
        have y3 : ∀ (i : Nat) x_, [y][i]? = some x_ → ∃ bs, [pairT U x][i]? = some bs ∧ Rd 5 W x_ (bts bs) := fun i x_ hx => by
          have h0 : i = 0 := by
            have := (List.getElem?_eq_some_iff.1 hx).1
            simpa using this
          subst h0
          simp at hx
          subst hx
          exact ⟨_, rfl, s2⟩
        simp only [List.filterMap_cons, List.filterMap_nil, List.getElem?_toArray, List.getElem?_cons_succ, List.getElem?_cons_zero]
        show wpList _ _ _ (_ :: _ :: []) _ _
        refine wpList_append_sl W rfl (.tmp 51) (.tmp 55) 33 rfl ga 59 i0 _ 1 24 Tryd.underlying33 hii hz0 hz1 hz2 rfl (by omega) v30 L1.length xs q30 x1 A2 1 1 [y] q40 s1 (rds_ones y3) (by unfold maxLen; omega) (by omega) hbs ?_
        intro v5 w6 ho_ hg_ hz_
        have HR5 := Lib.hid (rds_append (L' := [pairT U x]) x1 x2 x3 rfl y3 ho_ hg_)
        have L6 : Hid (Below w.heap.size w w6) := Lib.hid (hbw.grown hg_ hbw.size (fun k hk => by rw [HGA.out]; exact (own_cells x1 hk).1))
        have hs8 : a.tmps.size = 83 := by rw [hsz2]; rfl
        clear ho_ hg_ hz_ x1 x2 x3 s1 s2 y3 q40 q30 hbw hbW hv ho
        go_wp2_with fail
        refine bodyPost_ret (results_tmp rfl _ _ _) (by first | rfl | exact hd) ?_
        refine ⟨v5, congrArg Ending.returned (by simp [hs8]), ?_, L6.out⟩
        rw [HUT.out, HGA.out]
        exact HR5.out
    · have e3 : decide ((i : Int) < (k : Int)) = false := decide_eq_false (by omega)
      obtain ⟨U, hU⟩ : ∃ U, (upR h (i - k) (n - k) (path.take m).reverse).1 = U := ⟨_, rfl⟩
      obtain ⟨bo, hbo⟩ : ∃ b, (upR h (i - k) (n - k) (path.take m).reverse).2 = b := ⟨_, rfl⟩
      have hUl : U.length = 32 := by rw [← hU]; exact upR_len hh _ _ _
      have hbU : (bts U).length = 32 := by rw [bts_len, hUl]
      obtain ⟨L1, hL1⟩ : ∃ L, upT h (i - k) (n - k) (path.take m).reverse = L := ⟨_, rfl⟩
      have hL1l : L1.length ≤ 1000 := by
        rw [← hL1]
        have := upT_le (h := h) (path.take m).reverse (i - k) (n - k)
        rw [List.length_reverse, List.length_take] at this
        omega
      have HUT : Hid (upT h i n path.reverse = L1 ++ [pairT x U]) := Lib.hid (by rw [hrev, upT, if_neg (by omega), if_neg (by rw [hk]; exact hik), hk, hL1, hU])
      have HUP := Lib.hid (show ∀ W, Below w.heap.size w W → Calls Tryd.prog 56 #[.agg (bts h).toArray, .int .i64 ((i : Int) - (k : Int)), .int .i64 ((n : Int) - (k : Int)), .slice (some ⟨b, off, none⟩) m c] W fun e w' => e = .returned (.tuple #[.agg (bts U).toArray, .bool bo]) ∧ Below W.heap.size W w' from fun W hW => by
        rw [show (i : Int) - (k : Int) = ((i - k : Nat) : Int) by omega, show (n : Int) - (k : Int) = ((n - k : Nat) : Int) by omega]
        have := up_any m (path.take m) h (i - k) (n - k) (some ⟨b, off, none⟩) c W htl (by omega) (by omega) HCM.out (HP32.out.take m) hh (by omega) (by omega) (by omega) (((HA.out.htake HP32.out (by omega)).below hW).more hW.size)
        rwa [hU, hbo] at this)
      have HREC := Lib.hid (show ∀ W, Below w.heap.size w W → Calls Tryd.prog 41 #[.agg (bts h).toArray, .int .i64 ((i : Int) - (k : Int)), .int .i64 ((n : Int) - (k : Int)), .slice (some ⟨b, off, none⟩) m c] W fun e w' => ∃ v, e = .returned v ∧ RdsAt ga L1 v w' ∧ Below W.heap.size W w' from fun W hW => by
        rw [show (i : Int) - (k : Int) = ((i - k : Nat) : Int) by omega, show (n : Int) - (k : Int) = ((n - k : Nat) : Int) by omega]
        refine (IH.out (path.take m) h (i - k) (n - k) (some ⟨b, off, none⟩) c W htl (by omega) (by omega) HCM.out (HP32.out.take m) hh (by omega) (by omega) (((HA.out.htake HP32.out (by omega)).below hW).more hW.size)).mono ?_
        rintro e w' ⟨v, rfl, hq, hb⟩
        rw [hL1] at hq
        exact ⟨v, rfl, hq.low (by have := hW.size; have := HGA.out; omega), hb⟩)
      clear hU hbo hL1 hrev hk
      have e5 : (i : Int) - (k : Int) < 5000 := by omega
      have e6 : (n : Int) - (k : Int) < 5000 := by omega
      have e7 : (k : Int) ≤ (i : Int) := by omega
      have e8 : (k : Int) < (n : Int) := by omega
      go_wp2_with (refine wpList_val (by rfl) (run_ldh _ (by with_reducible rfl) ga 0 (by rfl) h hh (by exact KK0.out.all)) ?_)
      with_reducible refine (HUP.out _ KL3.out).mono ?_
      rintro en w4 ⟨rfl, hb4⟩
      have KK0_4 := Lib.hid (KK0.out.below hb4 KK0.out.lt)
      have KX_4 := Lib.hid (KX.out.below hb4 KX.out.lt)
      have KL4 := Lib.hid (KL3.out.trans (hb4.mono KL3.out.size))
      clear hb4 HUP KK0 KX KL3
      go_upto_region 10 with (refine wpList_puts (by rfl) 26 _ _ (by with_reducible rfl) _ 0 (by rfl) (bts U) (by rfl) 26 (bts hash0) (by exact Bk.new _ _ _) 32 hbU (by rw [h0l]; omega) hi_hash bts_all ?_; intro w5 hb_ hm_ hz_; rw [put_hash0 _ hUl] at hb_; have KU5 := Lib.hid hb_; have M5 := Lib.hid hm_; clear hb_ hm_ hz_)
      have L45 : Below w4.heap.size w4 w5 := ((Below.refl w4.heap.size w4).alloc (Nat.le_refl _) (.cells (bts hash0).toArray 26)).trans (M5.out.to_below (by simp) (fun k_ o e => by rw [e]; exact Nat.le_refl _))
      have KU_ := KU5.out
      obtain ⟨g4, hg4⟩ : ∃ g, w4.heap.size = g := ⟨_, rfl⟩
      rw [hg4] at KU_ ⊢
      have KU := Lib.hid KU_
      have KK0 := Lib.hid (KK0_4.out.below L45 KK0_4.out.lt)
      have KX := Lib.hid (KX_4.out.below L45 KX_4.out.lt)
      have KL5 := Lib.hid (KL4.out.trans (L45.mono KL4.out.size))
      clear KU_ KU5 M5 L45 hg4 KK0_4 KX_4 KL4
      have HW : Hid (∀ W, Below w5.drew.heap.size w5.drew W → Bk W ga 26 (bts h).toArray ∧ Bk W g2 26 (bts x).toArray ∧ Bk W g4 26 (bts U).toArray ∧ Below w.heap.size w W ∧ ga ≤ W.heap.size) := Lib.hid (fun W hb =>
        have hd : Below w5.heap.size w5 w5.drew := (Below.refl _ _).drew
        have h0 : Below w5.heap.size w5 W := hd.trans (hb.mono (Nat.le_refl _))
        have h1 : Below w.heap.size w W := KL5.out.trans (h0.mono KL5.out.size)
        ⟨KK0.out.below h0 KK0.out.lt, KX.out.below h0 KX.out.lt, KU.out.below h0 KU.out.lt, h1, by have := h1.size; have := HGA.out; omega⟩)
      refine wp_region_part [0, 1, 2, 3, 4, 5, 6, 7, 8, 9, 10, 11, 12] [] [13, 14] (lstV [fun v _ => v = .agg (bts h).toArray, fun v _ => v = .int .i64 (i : Int), fun v _ => v = .int .i64 (k : Int), fun v _ => v = .int .i64 ((i : Int) - (k : Int)), fun v _ => v = .int .i64 (n : Int), fun v _ => v = .int .i64 (k : Int), fun v _ => v = .int .i64 ((n : Int) - (k : Int)), fun v _ => v = .slice (some ⟨b, off, none⟩) m c, RdsAt ga L1, fun v _ => v = .agg (bts x).toArray, fun v _ => v = .agg (bts U).toArray, RdAt (pairT x U), RdOne ga (pairT x U)]) (by kernel_rfl) (by kernel_rfl) (lstV_on (by repeat' (first | exact forall_nil | refine forall_cons ?_ ?_ | exact stays_rds _ _ | exact stays_rd _ | exact stays_rdone _ _ | exact stays_eq _))) ?turns ?hq trivial ?fin
      case hq => intro c_ a_ d_ v_ w_ h_; cases d_ <;> exact h_
      case turns =>
        refine ⟨fun o ho a W pre => ?_, fun o ho a W pre => ?_, fun o ho a W pre => ?_, fun o ho a W pre => ?_, fun o ho a W pre => ?_, fun o ho a W pre => ?_, fun o ho a W pre => ?_, fun o ho a W pre => ?_, fun o ho a W pre => ?_, fun o ho a W pre => ?_, fun o ho a W pre => ?_, fun o ho a W pre => ?_, fun o ho a W pre => ?_, trivial⟩
        all_goals (obtain rfl := (Option.some.inj ho).symm; clear ho)
        · refine .inl ?_
          have q0 : a.eval (.tmp 4) = .pointer (some ⟨ga, 0, none⟩) := pre.was 4 (by kernel_rfl) rfl
          exact does_val (want_none rfl) (run_ldh _ rfl ga 0 q0 h hh (HW.out W pre.b).1.all) rfl
        · (refine .inl ?_; have q0 : a.eval (.tmp 1) = .int .i64 (i : Int) := pre.was 1 (by kernel_rfl) rfl; rw [Act.eval, Array.getD_eq_getD_getElem?] at q0; exact does_val (want_none rfl) (by go_simp) rfl)
        · (refine .inl ?_; have q0 : a.eval (.tmp 9) = .int .i64 (k : Int) := pre.was 9 (by kernel_rfl) rfl; rw [Act.eval, Array.getD_eq_getD_getElem?] at q0; exact does_val (want_none rfl) (by go_simp) rfl)
        · refine .inl ?_
          have q0 : a.eval (.tmp 70) = .int .i64 (i : Int) := pre.val 1 70 (by kernel_rfl) (by kernel_rfl)
          have q1 : a.eval (.tmp 71) = .int .i64 (k : Int) := pre.val 2 71 (by kernel_rfl) (by kernel_rfl)
          rw [Act.eval, Array.getD_eq_getD_getElem?] at q0 q1
          have e5 : IntKind.i64.wrap ((i : Int) - (k : Int)) = (i : Int) - (k : Int) := IntWalk.i64_in _ (by omega)
          exact does_val (want_none rfl) (by go_simp) rfl
        · (refine .inl ?_; have q0 : a.eval (.tmp 2) = .int .i64 (n : Int) := pre.was 2 (by kernel_rfl) rfl; rw [Act.eval, Array.getD_eq_getD_getElem?] at q0; exact does_val (want_none rfl) (by go_simp) rfl)
        · (refine .inl ?_; have q0 : a.eval (.tmp 9) = .int .i64 (k : Int) := pre.was 9 (by kernel_rfl) rfl; rw [Act.eval, Array.getD_eq_getD_getElem?] at q0; exact does_val (want_none rfl) (by go_simp) rfl)
        · refine .inl ?_
          have q0 : a.eval (.tmp 73) = .int .i64 (n : Int) := pre.val 4 73 (by kernel_rfl) (by kernel_rfl)
          have q1 : a.eval (.tmp 74) = .int .i64 (k : Int) := pre.val 5 74 (by kernel_rfl) (by kernel_rfl)
          rw [Act.eval, Array.getD_eq_getD_getElem?] at q0 q1
          have e5 : IntKind.i64.wrap ((n : Int) - (k : Int)) = (n : Int) - (k : Int) := IntWalk.i64_in _ (by omega)
          exact does_val (want_none rfl) (by go_simp) rfl
        · (refine .inl ?_; have q0 : a.eval (.tmp 11) = .slice (some ⟨b, off, none⟩) m c := pre.was 11 (by kernel_rfl) rfl; rw [Act.eval, Array.getD_eq_getD_getElem?] at q0; exact does_val (want_none rfl) (by go_simp) rfl)
        · refine .inl ?_
          have q0 : a.eval (.tmp 69) = .agg (bts h).toArray := pre.val 0 69 (by kernel_rfl) (by kernel_rfl)
          have q1 : a.eval (.tmp 72) = .int .i64 ((i : Int) - (k : Int)) := pre.val 3 72 (by kernel_rfl) (by kernel_rfl)
          have q2 : a.eval (.tmp 75) = .int .i64 ((n : Int) - (k : Int)) := pre.val 6 75 (by kernel_rfl) (by kernel_rfl)
          have q3 : a.eval (.tmp 76) = .slice (some ⟨b, off, none⟩) m c := pre.val 7 76 (by kernel_rfl) (by kernel_rfl)
          rw [Act.eval, Array.getD_eq_getD_getElem?] at q0 q1 q2 q3
          exact does_callx (want_none rfl) (by go_simp) (HREC.out W (HW.out W pre.b).2.2.2.1)
        · refine .inl ?_
          have q0 : a.eval (.tmp 10) = .pointer (some ⟨g2, 0, none⟩) := pre.was 10 (by kernel_rfl) rfl
          exact does_val (want_none rfl) (run_ldh _ rfl g2 0 q0 x hxl (HW.out W pre.b).2.1.all) rfl
        · refine .inl ?_
          have q0 : a.eval (.tmp 14) = .pointer (some ⟨g4, 0, none⟩) := pre.was 14 (by kernel_rfl) rfl
          exact does_val (want_none rfl) (run_ldh _ rfl g4 0 q0 U hUl (HW.out W pre.b).2.2.1.all) rfl
        · refine .inl ?_
          have q0 : a.eval (.tmp 78) = .agg (bts x).toArray := pre.val 9 78 (by kernel_rfl) (by kernel_rfl)
          have q1 : a.eval (.tmp 79) = .agg (bts U).toArray := pre.val 10 79 (by kernel_rfl) (by kernel_rfl)
          rw [Act.eval, Array.getD_eq_getD_getElem?] at q0 q1
          refine does_callx (want_none rfl) (by go_simp) ((twoText_any x U hxl hUl W).mono fun e W' h => ?_)
          obtain ⟨v, rfl, h1, h2⟩ := h
          exact ⟨v, rfl, own8_rd h1, h2⟩
        · refine .inl ?_
          obtain ⟨A2, c2, e2, hx2⟩ : RdAt (pairT x U) (a.eval (.tmp 80)) W := pre.val 11 80 (by kernel_rfl) (by kernel_rfl)
          have hrd : RdAt (pairT x U) (a.eval (.tmp 80)) W := pre.val 11 80 (by kernel_rfl) (by kernel_rfl)
          rw [e2] at hrd
          obtain ⟨m2, hm2⟩ : ∃ m, (bts (pairT x U)).length = m := ⟨_, rfl⟩
          rw [hm2] at e2 hrd
          clear hx2 hm2
          have q0 := e2
          rw [Act.eval, Array.getD_eq_getD_getElem?] at q0
          have hb_ : Below W.heap.size W (W.alloc (.cells #[.slice A2 m2 c2] 59)) := (by (first | assumption | (repeat (first | exact Below.refl _ _ | assumption | apply Below.drew | apply below_drewN | (refine Below.setCell ?_ (by (try simp) <;> omega) _) | (refine Below.alloc ?_ (by (try simp) <;> omega) _)))))
          have hK := Bk.new W 59 #[.slice A2 m2 c2]
          exact does_new (want_none rfl) (by go_simp) hb_ ⟨_, _, rfl, ⟨rfl, fun _ => ⟨W.heap.size, 0, rfl, hK.lt, fun j u hu => by rw [Nat.zero_add, hK.cell, List.getElem?_toArray]; exact hu⟩⟩, Rd.below hrd hb_ (Nat.le_refl _)⟩
      case fin =>
        intro a W hbW hsz2 hd hv ho
        obtain ⟨_, _, _, hbw, hbs⟩ := HW.out W hbW
        obtain ⟨xs, x1, x2, x3⟩ : RdsAt ga L1 (a.eval (.tmp 77)) W := hv 8 77 (by decide) (by kernel_rfl)
        obtain ⟨A2, y, q40, s1, s2⟩ : RdOne ga (pairT x U) (a.eval (.tmp 81)) W := hv 12 81 (by decide) (by kernel_rfl)
        obtain ⟨v30, q30⟩ : ∃ v, a.eval (.tmp 77) = v := ⟨_, rfl⟩
        rw [q30] at x1
        have y3 : ∀ (i : Nat) x_, [y][i]? = some x_ → ∃ bs, [pairT x U][i]? = some bs ∧ Rd 5 W x_ (bts bs) := fun i x_ hx => by
          have h0 : i = 0 := by
            have := (List.getElem?_eq_some_iff.1 hx).1
            simpa using this
          subst h0
          simp at hx
          subst hx
          exact ⟨_, rfl, s2⟩
        simp only [List.filterMap_cons, List.filterMap_nil, List.getElem?_toArray, List.getElem?_cons_succ, List.getElem?_cons_zero]
        show wpList _ _ _ (_ :: _ :: []) _ _
        refine wpList_append_sl W rfl (.tmp 77) (.tmp 81) 33 rfl ga 59 i0 _ 1 24 Tryd.underlying33 hii hz0 hz1 hz2 rfl (by omega) v30 L1.length xs q30 x1 A2 1 1 [y] q40 s1 (rds_ones y3) (by unfold maxLen; omega) (by omega) hbs ?_
        intro v5 w6 ho_ hg_ hz_
        have HR5 := Lib.hid (rds_append (L' := [pairT x U]) x1 x2 x3 rfl y3 ho_ hg_)
        have L6 : Hid (Below w.heap.size w w6) := Lib.hid (hbw.grown hg_ hbw.size (fun k hk => by rw [HGA.out]; exact (own_cells x1 hk).1))
        have hs8 : a.tmps.size = 83 := by rw [hsz2]; rfl
        clear ho_ hg_ hz_ x1 x2 x3 s1 s2 y3 q40 q30 hbw hbW hv ho
        go_wp2_with fail
        refine bodyPost_ret (results_tmp rfl _ _ _) (by first | rfl | exact hd) ?_
        refine ⟨v5, congrArg Ending.returned (by simp [hs8]), ?_, L6.out⟩
        rw [HUT.out, HGA.out]
        exact HR5.out
end Go.Proofs.YtdeikpifflkabaaDoor

namespace Go.Proofs.YtdeikpifflkabaaDoor
open Go.RowKit Go.Shelf
set_option linter.unusedVariables false
set_option linter.unusedSimpArgs false

def waysK (n : Nat) (ps : List PartV) : List (List UInt8) := [] :: ps.flatMap (partT n)
theorem partT_le (n : Nat) (p : PartV) : (partT n p).length ≤ p.path.length + 1 := by
  unfold partT
  split
  · rw [List.length_cons]
    have := upT_le (h := leafF p.e) p.path.reverse p.idx.toNat n
    rw [List.length_reverse] at this
    omega
  · simp
theorem waysK_le (n : Nat) {M : Nat} : ∀ (ps : List PartV), (∀ p ∈ ps, p.path.length ≤ M) → (waysK n ps).length ≤ 1 + ps.length * (M + 1)
  | [], _ => by simp [waysK]
  | p :: ps, h => by
    have h1 := waysK_le n (M := M) ps (fun q hq => h q (by simp [hq]))
    have h2 := partT_le n p
    have h3 := h p (by simp)
    unfold waysK at h1 ⊢
    rw [List.flatMap_cons, List.length_cons, List.length_append, List.length_cons]
    rw [List.length_cons] at h1
    rw [Nat.add_mul]
    omega
theorem waysK_next {n k : Nat} {ps : List PartV} {p : PartV} (hp : ps[k]? = some p) : waysK n (ps.take (k + 1)) = waysK n (ps.take k) ++ partT n p := by
  unfold waysK
  rw [take_at hp, List.flatMap_append]
  simp
theorem partT_out {n : Nat} {p : PartV} (h : ¬ (0 ≤ p.idx ∧ p.idx < (n : Int))) : partT n p = [] := by unfold partT; rw [if_neg h]
theorem partT_in {n i : Nat} {p : PartV} (h : p.idx = (i : Int)) (hi : i < n) : partT n p = leafT p.e :: upT (leafF p.e) i n p.path.reverse := by
  unfold partT
  rw [if_pos (by omega), h, Int.toNat_natCast]

attribute [local irreducible] digF
set_option maxRecDepth 100000 in
set_option maxHeartbeats 8000000 in
theorem ways_any (size : Int) (ps : List PartV) (m : Nat) (hm : ps.length = m) (hm10 : m ≤ 10) (P : Option Addr) (c : Nat) (w : World) (hs1 : -9223372036854775808 ≤ size) (hs2 : size < 9223372036854775808) (hf : ∀ p ∈ ps, p.fits) (hg : ∀ p ∈ ps, p.good w) (hP : Sl w w.heap.size 4 P ps.length (pCells ps)) :
    Calls Tryd.prog 23 #[.agg #[.int .i64 size, .slice P m c]] w fun e w' => ∃ v, e = .returned v ∧ RdsAt w.heap.size (waysT size ps) v w' ∧ Below w.heap.size w w' := by
  have HP := Lib.hid hP
  have HF := Lib.hid hf
  have HG := Lib.hid hg
  have HM := Lib.hid hm
  obtain ⟨g, hgg⟩ : ∃ g, w.heap.size = g := ⟨_, rfl⟩
  have HGG := Lib.hid hgg
  obtain ⟨i0, hii, hz0, hz1, hz2⟩ := info_parts slu8_info
  clear hP hf hg hm
  go_enter Tryd.func23, Tryd.ntmps23
  go_upto_region 2 with fail
  have KP := ((Bk.new w 38 #[.int .i64 size, .slice P m c]).alloc (.cells #[] 5)).alloc (.cells #[.slice (some ⟨g + 1, 0, none⟩) 0 0] 59)
  have hrd : ∀ W : World, Rd 5 W (.slice (some ⟨g + 1, 0, none⟩) 0 0) (bts []) := fun W => ⟨_, 0, rfl, Nat.le_refl _, by simp [maxLen], fun h => absurd h (by simp [bts])⟩
  have RD := rds_new (w := w) (W := (w.alloc (.cells #[.int .i64 size, .slice P m c] 38)).alloc (.cells #[] 5)) (x := .slice (some ⟨g + 1, 0, none⟩) 0 0) (bs := []) (hrd _) (by simp; omega)
  have L2 : Below w.heap.size w (((w.alloc (.cells #[.int .i64 size, .slice P m c] 38)).alloc (.cells #[] 5)).alloc (.cells #[.slice (some ⟨g + 1, 0, none⟩) 0 0] 59)) := (by (first | assumption | (repeat (first | exact Below.refl _ _ | assumption | apply Below.drew | apply below_drewN | (refine Below.setCell ?_ (by (try simp) <;> omega) _) | (refine Below.alloc ?_ (by (try simp) <;> omega) _)))))
  rw [World.size_alloc, World.size_alloc] at RD
  obtain ⟨w3, hw3⟩ : ∃ W, ((w.alloc (.cells #[.int .i64 size, .slice P m c] 38)).alloc (.cells #[] 5)).alloc (.cells #[.slice (some ⟨g + 1, 0, none⟩) 0 0] 59) = W := ⟨_, rfl⟩
  rw [hw3] at KP RD L2 ⊢
  rw [hgg] at KP RD L2
  have c0 := KP.cell 0
  have c1 := KP.cell 1
  have HKP := Lib.hid KP
  have HRD := Lib.hid RD
  have HL2 := Lib.hid L2
  clear hw3 KP RD L2 hrd hgg
  by_cases hs0 : size < 0
  · have e1 : decide (size < 0) = true := decide_eq_true hs0
    go_wp2_with fail
    go_ret
    refine ⟨_, rfl, ?_, by rw [HGG.out]; exact HL2.out⟩
    unfold waysT
    rw [if_pos (.inl hs0), HGG.out]
    exact HRD.out
  have e1 : decide (size < 0) = false := decide_eq_false hs0
  by_cases hs4 : 4096 < size
  · have e2 : decide (4096 < size) = true := decide_eq_true hs4
    go_wp2_with fail
    go_ret
    refine ⟨_, rfl, ?_, by rw [HGG.out]; exact HL2.out⟩
    unfold waysT
    rw [if_pos (.inr hs4), HGG.out]
    exact HRD.out
  have e2 : decide (4096 < size) = false := decide_eq_false hs4
  obtain ⟨N, rfl⟩ : ∃ N : Nat, size = (N : Int) := ⟨size.toNat, by omega⟩
  have hWT : Hid (waysT (N : Int) ps = waysK N ps) := Lib.hid (by unfold waysT waysK; rw [if_neg (by omega), Int.toNat_natCast])
  have e2' : decide (4096 < N) = false := decide_eq_false (by omega)
  go_wp2_with fail
  clear c0 c1
  go_loopw [3, 4] (fun s i wr => ∃ k : Nat, k ≤ m ∧ i = .int .i64 k ∧ Bk wr g 38 #[.int .i64 (N : Int), .slice P m c] ∧ Below g w wr ∧ RdsAt g (waysK N (ps.take k)) s wr) (fun _ i _ => m - (intOf i).toNat)
  case atStart => exact ⟨0, by omega, rfl, HKP.out, HL2.out, by rw [List.take_zero]; exact HRD.out⟩
  case round =>
    obtain ⟨k, hk, rfl, hkp, hbl, hrs⟩ := hrel
    have KPW := Lib.hid hkp
    have BW := Lib.hid (show Below w.heap.size w wr by rw [HGG.out]; exact hbl)
    have RSW := Lib.hid hrs
    have x0 := hkp.cell 0
    have x1 := hkp.cell 1
    have hgw : g < wr.heap.size := hkp.lt
    clear hkp hbl hrs HKP HL2 HRD
    by_cases hlt : k < m
    · have hlt' : (k : Int) < (m : Int) := by omega
      obtain ⟨b, off, p, rfl, hb, hpk, hc0, hc1, hc2, hc3⟩ := HP.out.pt (k := k) (by have := HM.out; omega)
      have hfp := HF.out p (List.mem_of_getElem? hpk)
      have hgp := HG.out p (List.mem_of_getElem? hpk)
      have hnx := waysK_next (n := N) hpk
      have a0 := (BW.out.cell (p := ⟨b, off + k * 4, none⟩) hb).trans hc0
      have a1 := (BW.out.cell (p := ⟨b, off + k * 4 + 1, none⟩) hb).trans hc1
      have a2 := (BW.out.cell (p := ⟨b, off + k * 4 + 2, none⟩) hb).trans hc2
      have a3 := (BW.out.cell (p := ⟨b, off + k * 4 + 3, none⟩) hb).trans hc3
      have hLl : (waysK N (ps.take k)).length ≤ 20000 := by
        have h1 := waysK_le N (M := 1000) (ps.take k) (fun q hq => (HF.out q (List.mem_of_mem_take hq)).2.2)
        have h2 : (ps.take k).length ≤ 10 := by rw [List.length_take]; omega
        have h3 : (ps.take k).length * (1000 + 1) ≤ 10 * 1001 := Nat.mul_le_mul_right 1001 h2
        omega
      obtain ⟨⟨idx, ⟨pk, pv⟩, pA, path, pc⟩, hpe⟩ : ∃ x, x = p := ⟨p, rfl⟩
      subst hpe
      simp only at a0 a1 a2 a3
      have GP := Lib.hid hgp
      have FP := Lib.hid hfp
      have NX := Lib.hid hnx
      obtain ⟨L, hL⟩ : ∃ L, waysK N (ps.take k) = L := ⟨_, rfl⟩
      rw [hL] at NX RSW hLl
      clear hc0 hc1 hc2 hc3 hpk hfp hgp hnx hL
      go_upto_region 8 with fail
      have N1 := Bk.new wr 41 #[.int .i64 idx, .string pk, .string pv, .slice pA path.length pc]
      have hb4 : Below wr.heap.size wr (wr.alloc (.cells #[.int .i64 idx, .string pk, .string pv, .slice pA path.length pc] 41)) := (by (first | assumption | (repeat (first | exact Below.refl _ _ | assumption | apply Below.drew | apply below_drewN | (refine Below.setCell ?_ (by (try simp) <;> omega) _) | (refine Below.alloc ?_ (by (try simp) <;> omega) _)))))
      obtain ⟨w4, hw4⟩ : ∃ W, wr.alloc (.cells #[.int .i64 idx, .string pk, .string pv, .slice pA path.length pc] 41) = W := ⟨_, rfl⟩
      obtain ⟨gr, hgr⟩ : ∃ g, wr.heap.size = g := ⟨_, rfl⟩
      rw [hw4] at N1 hb4 ⊢
      have B4 := Lib.hid (BW.out.trans (hb4.mono BW.out.size))
      have KP4 := Lib.hid (KPW.out.below hb4 KPW.out.lt)
      have RS4 := Lib.hid (stays_rds _ _ _ _ _ RSW.out hb4)
      rw [hgr] at N1 ⊢
      have y0 := KP4.out.cell 0
      have n0 := N1.cell 0
      have n1 := N1.cell 1
      have n2 := N1.cell 2
      have N1 := Lib.hid N1
      clear hw4 hgr hb4 a0 a1 a2 a3 x0 x1 BW KPW RSW
      by_cases hi0 : idx < 0
      · have e3 : decide (idx < 0) = true := decide_eq_true hi0
        have hp0 : Hid (partT N ⟨idx, (pk, pv), pA, path, pc⟩ = []) := Lib.hid (partT_out (by simp only; omega))
        go_wp2_with fail
        go_roundw
        case rel => exact ⟨k + 1, by omega, by go_num, KP4.out, by have := B4.out; rw [HGG.out] at this; exact this, by rw [NX.out, hp0.out, List.append_nil]; exact RS4.out⟩
        case measure => simp [intOf]; omega
      have e3 : decide (idx < 0) = false := decide_eq_false hi0
      by_cases hiN : (N : Int) ≤ idx
      · have e4 : decide ((N : Int) ≤ idx) = true := decide_eq_true hiN
        have hp0 : Hid (partT N ⟨idx, (pk, pv), pA, path, pc⟩ = []) := Lib.hid (partT_out (by simp only; omega))
        go_wp2_with fail
        go_roundw
        case rel => exact ⟨k + 1, by omega, by go_num, KP4.out, by have := B4.out; rw [HGG.out] at this; exact this, by rw [NX.out, hp0.out, List.append_nil]; exact RS4.out⟩
        case measure => simp [intOf]; omega
      have e4 : decide ((N : Int) ≤ idx) = false := decide_eq_false hiN
      obtain ⟨i, rfl⟩ : ∃ i : Nat, idx = (i : Int) := ⟨idx.toNat, by omega⟩
      have hiN' : i < N := by omega
      have e4' : decide (N ≤ i) = false := decide_eq_false (by omega)
      have e5 : decide ((4096 : Int) < (pk.size : Int)) = false := decide_eq_false (by have := FP.out.1; simp only at this; omega)
      have hp1 : Hid (partT N ⟨(i : Int), (pk, pv), pA, path, pc⟩ = leafT (pk, pv) :: upT (leafF (pk, pv)) i N path.reverse) := Lib.hid (partT_in rfl hiN')
      have HLT := Lib.hid (leafText_any (pk, pv) (by have := FP.out.1; simp only at *; omega) (by have := FP.out.2.1; simp only at *; omega) w4)
      go_wp2_with fail
      with_reducible refine HLT.out.mono ?_
      rintro en w5 ⟨v2, rfl, ho2, hb5⟩
      have HR2 := own8_rd ho2
      obtain ⟨A2, m2, c2, rfl⟩ : ∃ A2 m2 c2, v2 = .slice A2 m2 c2 := by obtain ⟨A2, c2, e, _⟩ := own8_rd ho2; exact ⟨A2, _, c2, e⟩
      have b56 : Below w5.heap.size w5 (w5.alloc (.cells #[.slice A2 m2 c2] 59)) := (by (first | assumption | (repeat (first | exact Below.refl _ _ | assumption | apply Below.drew | apply below_drewN | (refine Below.setCell ?_ (by (try simp) <;> omega) _) | (refine Below.alloc ?_ (by (try simp) <;> omega) _)))))
      have b46 := hb5.trans (b56.mono hb5.size)
      have K6 := Bk.new w5 59 #[.slice A2 m2 c2]
      have B6 := Lib.hid (B4.out.trans (b46.mono B4.out.size))
      have KP6 := Lib.hid (KP4.out.below b46 KP4.out.lt)
      have N6 := Lib.hid (N1.out.below b46 N1.out.lt)
      obtain ⟨xs, q1, q2, q3⟩ := stays_rds _ _ _ _ _ RS4.out b46
      have Q1 := Lib.hid q1
      have Q23 := Lib.hid (And.intro q2 q3)
      have SL6 : Hid (Sl (w5.alloc (.cells #[.slice A2 m2 c2] 59)) (w5.alloc (.cells #[.slice A2 m2 c2] 59)).heap.size 1 (some ⟨w5.heap.size, 0, none⟩) 1 [.slice A2 m2 c2]) := Lib.hid ⟨rfl, fun _ => ⟨w5.heap.size, 0, rfl, K6.lt, fun j u hu => by rw [Nat.zero_add, K6.cell, List.getElem?_toArray]; exact hu⟩⟩
      have hrd2 := Rd.below HR2 b56 (Nat.le_refl _)
      have Y3 : Hid (∀ (j : Nat) x_, [Value.slice A2 m2 c2][j]? = some x_ → ∃ bs, [leafT (pk, pv)][j]? = some bs ∧ Rd 5 (w5.alloc (.cells #[.slice A2 m2 c2] 59)) x_ (bts bs)) := Lib.hid (fun j x_ hx => by
        have h0 : j = 0 := by
          have := (List.getElem?_eq_some_iff.1 hx).1
          simpa using this
        subst h0
        simp at hx
        subst hx
        exact ⟨_, rfl, hrd2⟩)
      have hg6 : Hid (g ≤ (w5.alloc (.cells #[.slice A2 m2 c2] 59)).heap.size) := Lib.hid (by have := B6.out.size; have := HGG.out; omega)
      clear ho2 hb5 HR2 b56 b46 K6 q1 q2 q3 hrd2 HLT n0 n1 n2 y0 B4 KP4 N1 RS4
      go_upto_region 10 with (refine wpList_append_sl _ (by rfl) _ _ 33 (by rfl) g 59 i0 _ 1 24 Tryd.underlying33 hii hz0 hz1 hz2 rfl (by omega) _ L.length xs (by rfl) Q1.out (some ⟨w5.heap.size, 0, none⟩) 1 1 [.slice A2 m2 c2] (by rfl) SL6.out (rds_ones Y3.out) (by unfold maxLen; omega) (by omega) hg6.out ?_; intro v7 w7 ho_ hg_ hv_; have R7 := Lib.hid (rds_append (L' := [leafT (pk, pv)]) Q1.out Q23.out.1 Q23.out.2 rfl Y3.out ho_ hg_); have G7 := Lib.hid hg_; clear ho_ hg_ hv_)
      have B7 : Hid (Below w.heap.size w w7) := Lib.hid (B6.out.grown G7.out B6.out.size (fun k hk => by rw [HGG.out]; exact (own_cells Q1.out hk).1))
      have KP7 := Lib.hid (KP6.out.grown G7.out (own_ne Q1.out KP6.out (by decide)))
      have N7 := Lib.hid (N6.out.grown G7.out (own_ne Q1.out N6.out (by decide)))
      clear G7 Q1 Q23 SL6 Y3 hg6 B6 KP6 N6
      obtain ⟨H, hH⟩ : ∃ H, leafF (pk, pv) = H := ⟨_, rfl⟩
      have hHl : H.length = 32 := by rw [← hH, leafF_len]
      obtain ⟨L1, hL1⟩ : ∃ L, upT H i N path.reverse = L := ⟨_, rfl⟩
      have hpl : path.length ≤ 1000 := FP.out.2.2
      have hL1l : L1.length ≤ 1000 := by
        rw [← hL1]
        have := upT_le (h := H) path.reverse i N
        rw [List.length_reverse] at this
        omega
      have HLEAF := Lib.hid (show ∀ W, Calls Tryd.prog 42 #[.agg #[.string pk, .string pv]] W fun en w' => en = .returned (.agg (bts H).toArray) ∧ Below W.heap.size W w' from fun W => by
        have := rleaf_any (pk, pv) (by have := FP.out.1; simp only at *; omega) (by have := FP.out.2.1; simp only at *; omega) W
        rwa [hH] at this)
      have HUT := Lib.hid (show ∀ W, Below w.heap.size w W → Calls Tryd.prog 41 #[.agg (bts H).toArray, .int .i64 (i : Int), .int .i64 (N : Int), .slice pA path.length pc] W fun e w' => ∃ v, e = .returned v ∧ RdsAt g L1 v w' ∧ Below W.heap.size W w' from fun W hW => by
        refine (uptexts_any path.length path H i N pA pc W rfl hpl GP.out.le GP.out.cm GP.out.h hHl (by omega) (by omega) ((GP.out.sl.below hW).more hW.size)).mono ?_
        rintro e w' ⟨v, rfl, hq, hb⟩
        rw [hL1] at hq
        exact ⟨v, rfl, hq.low (by have := hW.size; have := HGG.out; omega), hb⟩)
      rw [hH, hL1] at hp1
      have HW : Hid (∀ W, Below w7.drew.heap.size w7.drew W → Bk W gr 41 #[.int .i64 (i : Int), .string pk, .string pv, .slice pA path.length pc] ∧ Bk W g 38 #[.int .i64 (N : Int), .slice (some ⟨b, off, none⟩) m c] ∧ RdsAt g (L ++ [leafT (pk, pv)]) v7 W ∧ Below w.heap.size w W ∧ g ≤ W.heap.size) := Lib.hid (fun W hW =>
        have hd : Below w7.heap.size w7 w7.drew := (Below.refl _ _).drew
        have h0 : Below w7.heap.size w7 W := hd.trans (hW.mono hd.size)
        have h1 : Below w.heap.size w W := B7.out.trans (h0.mono B7.out.size)
        ⟨N7.out.below h0 N7.out.lt, KP7.out.below h0 KP7.out.lt, stays_rds _ _ _ _ _ R7.out h0, h1, by have := h1.size; have := HGG.out; omega⟩)
      clear hH hL1 B7 KP7 N7 R7
      refine wp_region_part2 [0, 1, 2, 3, 4, 5, 6, 7, 8, 9, 10] [] [11, 12] (lstV [RdsAt g (L ++ [leafT (pk, pv)]), fun v _ => v = .pointer (some ⟨gr, 1, none⟩), fun v _ => v = .agg #[.string pk, .string pv], fun v _ => v = .agg (bts H).toArray, fun v _ => v = .pointer (some ⟨gr, 0, none⟩), fun v _ => v = .int .i64 (i : Int), fun v _ => v = .pointer (some ⟨g, 0, none⟩), fun v _ => v = .int .i64 (N : Int), fun v _ => v = .pointer (some ⟨gr, 3, none⟩), fun v _ => v = .slice pA path.length pc, RdsAt g L1]) (by kernel_rfl) (by kernel_rfl) (lstV_on (by repeat' (first | exact forall_nil | refine forall_cons ?_ ?_ | exact stays_rds _ _ | exact stays_eq _))) ?turns ?hq trivial ?fin
      case hq => intro c_ a_ d_ v_ w_ h_; cases d_ <;> exact h_
      case turns =>
        refine ⟨fun o ho a W pre po => ?_, fun o ho a W pre po => ?_, fun o ho a W pre po => ?_, fun o ho a W pre po => ?_, fun o ho a W pre po => ?_, fun o ho a W pre po => ?_, fun o ho a W pre po => ?_, fun o ho a W pre po => ?_, fun o ho a W pre po => ?_, fun o ho a W pre po => ?_, fun o ho a W pre po => ?_, trivial⟩
        all_goals (obtain rfl := (Option.some.inj ho).symm; clear ho)
        · refine .inl ?_
          have q0 : a.eval (.tmp 3) = v7 := (po 3 (no_dst_in (by kernel_rfl))).trans rfl
          rw [Act.eval, Array.getD_eq_getD_getElem?] at q0
          exact does_val (want_none rfl) (by go_simp) (HW.out W pre.b).2.2.1
        · (refine .inl ?_; have q0 : a.eval (.tmp 5) = .pointer (some ⟨gr, 0, none⟩) := pre.was 5 (by kernel_rfl) rfl; rw [Act.eval, Array.getD_eq_getD_getElem?] at q0; exact does_val (want_none rfl) (by go_simp) rfl)
        · have d1 := (HW.out W pre.b).1.cell 1
          have d2 := (HW.out W pre.b).1.cell 2
          (refine .inl ?_; have q0 : a.eval (.tmp 53) = .pointer (some ⟨gr, 1, none⟩) := pre.val 1 53 (by kernel_rfl) (by kernel_rfl); rw [Act.eval, Array.getD_eq_getD_getElem?] at q0; exact does_val (want_none rfl) (by go_simp) rfl)
        · (refine .inl ?_; have q0 : a.eval (.tmp 54) = .agg #[.string pk, .string pv] := pre.val 2 54 (by kernel_rfl) (by kernel_rfl); rw [Act.eval, Array.getD_eq_getD_getElem?] at q0; exact does_call (want_none rfl) (by go_simp) (HLEAF.out W) (fun _ => rfl))
        · (refine .inl ?_; have q0 : a.eval (.tmp 5) = .pointer (some ⟨gr, 0, none⟩) := pre.was 5 (by kernel_rfl) rfl; rw [Act.eval, Array.getD_eq_getD_getElem?] at q0; exact does_val (want_none rfl) (by go_simp) rfl)
        · have d1 := (HW.out W pre.b).1.cell 0
          (refine .inl ?_; have q0 : a.eval (.tmp 56) = .pointer (some ⟨gr, 0, none⟩) := pre.val 4 56 (by kernel_rfl) (by kernel_rfl); rw [Act.eval, Array.getD_eq_getD_getElem?] at q0; exact does_val (want_none rfl) (by go_simp) rfl)
        · (refine .inl ?_; have q0 : a.eval (.tmp 1) = .pointer (some ⟨g, 0, none⟩) := pre.was 1 (by kernel_rfl) rfl; rw [Act.eval, Array.getD_eq_getD_getElem?] at q0; exact does_val (want_none rfl) (by go_simp) rfl)
        · have d1 := (HW.out W pre.b).2.1.cell 0
          (refine .inl ?_; have q0 : a.eval (.tmp 58) = .pointer (some ⟨g, 0, none⟩) := pre.val 6 58 (by kernel_rfl) (by kernel_rfl); rw [Act.eval, Array.getD_eq_getD_getElem?] at q0; exact does_val (want_none rfl) (by go_simp) rfl)
        · (refine .inl ?_; have q0 : a.eval (.tmp 5) = .pointer (some ⟨gr, 0, none⟩) := pre.was 5 (by kernel_rfl) rfl; rw [Act.eval, Array.getD_eq_getD_getElem?] at q0; exact does_val (want_none rfl) (by go_simp) rfl)
        · have d1 := (HW.out W pre.b).1.cell 3
          (refine .inl ?_; have q0 : a.eval (.tmp 60) = .pointer (some ⟨gr, 3, none⟩) := pre.val 8 60 (by kernel_rfl) (by kernel_rfl); rw [Act.eval, Array.getD_eq_getD_getElem?] at q0; exact does_val (want_none rfl) (by go_simp) rfl)
        · refine .inl ?_
          have q0 : a.eval (.tmp 55) = .agg (bts H).toArray := pre.val 3 55 (by kernel_rfl) (by kernel_rfl)
          have q1 : a.eval (.tmp 57) = .int .i64 (i : Int) := pre.val 5 57 (by kernel_rfl) (by kernel_rfl)
          have q2 : a.eval (.tmp 59) = .int .i64 (N : Int) := pre.val 7 59 (by kernel_rfl) (by kernel_rfl)
          have q3 : a.eval (.tmp 61) = .slice pA path.length pc := pre.val 9 61 (by kernel_rfl) (by kernel_rfl)
          rw [Act.eval, Array.getD_eq_getD_getElem?] at q0 q1 q2 q3
          exact does_callx (want_none rfl) (by go_simp) (HUT.out W (HW.out W pre.b).2.2.2.1)
      case fin =>
        intro a W hbW hsz2 hd hv ho
        obtain ⟨_, hkp, _, hbw, hbs⟩ := HW.out W hbW
        have KPW := Lib.hid hkp
        have BWW := Lib.hid hbw
        have BSS := Lib.hid hbs
        obtain ⟨T, D⟩ := a
        obtain rfl : D = _ := hd
        have hs8 : T.size = 65 := by rw [hsz2]; rfl
        obtain ⟨xs, x1, x2, x3⟩ : RdsAt g (L ++ [leafT (pk, pv)]) (T.getD 52 undef) W := hv 0 52 (by decide) (by kernel_rfl)
        obtain ⟨ys, y1, y2, y3⟩ : RdsAt g L1 (T.getD 62 undef) W := hv 10 62 (by decide) (by kernel_rfl)
        obtain ⟨A2, c2, q2, s1, s2, s3⟩ := own_sl y1
        obtain ⟨v52, q1⟩ : ∃ v, T.getD 52 undef = v := ⟨_, rfl⟩
        rw [q1] at x1
        have p0 : T.getD 0 undef = _ := ho 0 (no_dst_in (by kernel_rfl))
        have p1 : T.getD 1 undef = _ := ho 1 (no_dst_in (by kernel_rfl))
        have p2 : T.getD 2 undef = _ := ho 2 (no_dst_in (by kernel_rfl))
        have p4 : T.getD 4 undef = _ := ho 4 (no_dst_in (by kernel_rfl))
        have p6 : T.getD 6 undef = _ := ho 6 (no_dst_in (by kernel_rfl))
        have p7 : T.getD 7 undef = _ := ho 7 (no_dst_in (by kernel_rfl))
        have p8 : T.getD 8 undef = _ := ho 8 (no_dst_in (by kernel_rfl))
        have p9 : T.getD 9 undef = _ := ho 9 (no_dst_in (by kernel_rfl))
        have p10 : T.getD 10 undef = _ := ho 10 (no_dst_in (by kernel_rfl))
        have p11 : T.getD 11 undef = _ := ho 11 (no_dst_in (by kernel_rfl))
        have p12 : T.getD 12 undef = _ := ho 12 (no_dst_in (by kernel_rfl))
        have p13 : T.getD 13 undef = _ := ho 13 (no_dst_in (by kernel_rfl))
        have p14 : T.getD 14 undef = _ := ho 14 (no_dst_in (by kernel_rfl))
        have p15 : T.getD 15 undef = _ := ho 15 (no_dst_in (by kernel_rfl))
        have p16 : T.getD 16 undef = _ := ho 16 (no_dst_in (by kernel_rfl))
        have p64 : T.getD 64 undef = _ := ho 64 (no_dst_in (by kernel_rfl))
        have X1 := Lib.hid x1
        have X23 := Lib.hid (And.intro x2 x3)
        have Y23 := Lib.hid (And.intro y2 y3)
        have S3 := Lib.hid s3
        have hLl2 : (L ++ [leafT (pk, pv)]).length ≤ 20001 := by rw [List.length_append, List.length_singleton]; omega
        obtain ⟨f, hf⟩ : ∃ f : Nat → Value, ∀ i, T.getD i undef = f i := ⟨_, fun _ => rfl⟩
        have hT := lit_of hs8 f hf
        rw [hf] at q1 q2 p0 p1 p2 p4 p6 p7 p8 p9 p10 p11 p12 p13 p14 p15 p16 p64
        simp only [Array.getD_eq_getD_getElem?, List.getElem?_toArray, List.getElem?_cons_succ, List.getElem?_cons_zero, Option.getD_some] at p0 p1 p2 p4 p6 p7 p8 p9 p10 p11 p12 p13 p14 p15 p16 p64
        simp only [List.range, List.range.loop, List.map_cons, List.map_nil, q1, q2, p0, p1, p2, p4, p6, p7, p8, p9, p10, p11, p12, p13, p14, p15, p16, p64] at hT
        clear hf q1 q2 p0 p1 p2 p4 p6 p7 p8 p9 p10 p11 p12 p13 p14 p15 p16 p64 hs8 hsz2 hv ho hbW hkp hbw hbs x1 x2 x3 y1 y2 y3 s1 s2 s3 HW HUT HLEAF
        subst hT
        simp only [List.filterMap_cons, List.filterMap_nil, List.getElem?_toArray, List.getElem?_cons_succ, List.getElem?_cons_zero]
        show wpList _ _ _ (_ :: _ :: []) _ _
        refine wpList_append_sl W (by rfl) (.tmp 52) (.tmp 62) 33 (by rfl) g 59 i0 _ 1 24 Tryd.underlying33 hii hz0 hz1 hz2 rfl (by omega) v52 (L ++ [leafT (pk, pv)]).length xs (by rfl) X1.out A2 L1.length c2 ys (by rfl) S3.out (rds_ones Y23.out.2) (by unfold maxLen; omega) (by omega) BSS.out ?_
        intro v8 w8 ho_ hg_ hz_
        have HR8 := Lib.hid (rds_append (L' := L1) X1.out X23.out.1 X23.out.2 Y23.out.1 Y23.out.2 ho_ hg_)
        have L8 : Hid (Below w.heap.size w w8) := Lib.hid (BWW.out.grown hg_ BWW.out.size (fun k hk => by rw [HGG.out]; exact (own_cells X1.out hk).1))
        have KP8 := Lib.hid (KPW.out.grown hg_ (own_ne X1.out KPW.out (by decide)))
        clear ho_ hg_ hz_ X1 X23 Y23 S3
        go_wp2_with fail
        go_roundw
        case rel => exact ⟨k + 1, by omega, by go_num, KP8.out, by have := L8.out; rw [HGG.out] at this; exact this, by rw [NX.out, hp1.out]; have := HR8.out; rw [List.append_assoc] at this; exact this⟩
        case measure => simp [intOf]; omega
    · obtain rfl : k = m := by omega
      have hall : ps.take k = ps := List.take_of_length_le (by have := HM.out; omega)
      rw [hall] at RSW
      go_wp2_with fail
      go_ret
      refine ⟨_, rfl, ?_, BW.out⟩
      rw [hWT.out, HGG.out]
      exact RSW.out
end Go.Proofs.YtdeikpifflkabaaDoor

namespace Go.Proofs.YtdeikpifflkabaaDoor
open Go.RowKit Go.Shelf
set_option linter.unusedVariables false
set_option linter.unusedSimpArgs false

theorem exec_app {P : Program} {o : Oper} {a : Act} {w w' : World} {v v2 v' : Value} (s x : Operand) (t : TypeId) (ho : o.op = .call { callee := .builtin .append, args := #[s, x], argTypes := #[t, t] }) (hs : a.eval s = v) (hx : a.eval x = v2)
    (hrun : (Builtin.append_ #[t, t] o.type #[v, v2]).run P w = .ok v' w') : (execOp a.eval o).run P w = .ok (.value v') w' := by
  unfold execOp
  simp only [ho, resolve, invoke, builtin, Sem.run_bind, Sem.run_pure, Result.andThen_ok, List.map_toArray, List.map_cons, List.map_nil, hs, hx, hrun]
theorem texts_small : ∀ (n : Nat) (l : List Ent), l.length = n → Fits l → ∀ b ∈ textsE l, b.length ≤ 1000 := by
  intro n
  induction n using Nat.strongRecOn with
  | _ n ih =>
    intro l hn hf b hb
    by_cases h : 2 ≤ l.length
    · have hlt := splitN_lt h
      have hpos := splitN_pos l.length
      rw [textsE_two h, List.mem_append, List.mem_append, List.mem_singleton, topT_two h] at hb
      rcases hb with (hb | hb) | hb
      · exact ih _ (by rw [List.length_take]; omega) _ rfl (hf.take _) b hb
      · exact ih _ (by rw [List.length_drop]; omega) _ rfl (hf.drop _) b hb
      · rw [hb, pairT, List.length_cons, List.length_append, rootE_len, rootE_len]; omega
    · rw [textsE_short h, List.mem_singleton] at hb
      rcases short_cases h with rfl | ⟨e, rfl⟩
      · rw [hb, topT_nil]; simp
      · have := hf e (by simp)
        rw [hb, topT_one, leafT, List.length_cons, List.length_append, List.length_append, lenB_len, Array.length_toList, Array.length_toList]
        have h1 : e.1.data.size = e.1.size := rfl
        have h2 : e.2.data.size = e.2.size := rfl
        omega

theorem upT_65 {h : List UInt8} (hh : h.length = 32) : ∀ (r : List (List UInt8)) (i n : Nat), (∀ a ∈ r, a.length = 32) → ∀ b ∈ upT h i n r, b.length = 65
  | [], i, n, _, b, hb => by rw [upT] at hb; cases hb
  | x :: r, i, n, hr, b, hb => by
    have hx := hr x (by simp)
    have hr' : ∀ a ∈ r, a.length = 32 := fun a ha => hr a (by simp [ha])
    rw [upT] at hb
    split at hb
    · cases hb
    · split at hb
      · rcases List.mem_append.1 hb with hb | hb
        · exact upT_65 hh r _ _ hr' b hb
        · rw [List.mem_singleton.1 hb, pairT, List.length_cons, List.length_append, upR_len hh, hx]
      · rcases List.mem_append.1 hb with hb | hb
        · exact upT_65 hh r _ _ hr' b hb
        · rw [List.mem_singleton.1 hb, pairT, List.length_cons, List.length_append, upR_len hh, hx]
theorem leafT_short {e : Ent} (h1 : e.1.size ≤ 300) (h2 : e.2.size ≤ 300) : (leafT e).length ≤ 1000 := by
  unfold leafT
  rw [List.length_cons, List.length_append, List.length_append, lenB_len, Array.length_toList, Array.length_toList]
  have e1 : e.1.data.size = e.1.size := rfl
  have e2 : e.2.data.size = e.2.size := rfl
  omega
theorem waysT_short {size : Int} {ps : List PartV} (hf : ∀ p ∈ ps, p.fits) (hp : ∀ p ∈ ps, h32 p.path) : ∀ b ∈ waysT size ps, b.length ≤ 1000 := fun b hb => by
  unfold waysT at hb
  rcases List.mem_cons.1 hb with rfl | hb
  · simp
  · split at hb
    · cases hb
    · obtain ⟨p, hpm, hb⟩ := List.mem_flatMap.1 hb
      unfold partT at hb
      split at hb
      · rcases List.mem_cons.1 hb with rfl | hb
        · exact leafT_short (hf p hpm).1 (hf p hpm).2.1
        · have := upT_65 (leafF_len p.e) _ _ _ (fun a ha => hp p hpm a (List.mem_reverse.1 ha)) b hb
          omega
      · cases hb
theorem waysT_few {size : Int} {ps : List PartV} (hm : ps.length ≤ 2) (hp : ∀ p ∈ ps, p.path.length ≤ 20) : (waysT size ps).length ≤ 43 := by
  by_cases h : size < 0 ∨ 4096 < size
  · unfold waysT
    rw [if_pos h]
    simp
  · have h1 := waysK_le size.toNat (M := 20) ps hp
    have h2 : waysT size ps = waysK size.toNat ps := by unfold waysT waysK; rw [if_neg h]
    rw [h2]
    omega
attribute [local irreducible] digF
set_option maxRecDepth 100000 in
set_option maxHeartbeats 8000000 in
theorem bent_any (A : Option Addr) (l : List Ent) (n : Nat) (hn : l.length = n) (c : Nat) (key : ByteArray) (q : PartV) (w : World) (hq : q.good w) (hr : Roots w) (h0 : 0 < w.heap.size) (hlc : n ≤ c) (hcm : c ≤ maxLen) (hA : Sl w w.heap.size 2 A l.length (eCells l)) :
    Calls Tryd.prog 8 #[.slice A n c, .string key, .agg q.cells.toArray] w fun e w' => e = .returned (.bool true) ∧ Below w.heap.size w w' := by
  have hzh := zero_hash
  have h0l : (bts hash0).length = 32 := by rw [bts_len, hash0_len]
  have HR := Lib.hid hr
  have HA := Lib.hid hA
  have HN := Lib.hid hn
  have HCM := Lib.hid hcm
  obtain ⟨bi, ⟨bk, bv⟩, bA, bp, bc⟩ := q
  have HQ := Lib.hid hq
  simp only [PartV.cells]
  have hAl := Lib.hid fun W (hb : Below w.heap.size w W) => alive_any W (hr.below hb h0) (Nat.lt_of_lt_of_le h0 hb.size)
  have HF1 := Lib.hid fun W (hb : Below w.heap.size w W) => (show Calls Tryd.prog 9 #[.slice A n c] W fun e w' => ∃ b, e = .returned (.bool b) ∧ (b = true → n ≤ 70 ∧ Fits l) ∧ Below W.heap.size W w' from by
    have h := few_any A l c W (by omega) ((hA.below hb).more hb.size)
    rwa [hn] at h)
  obtain ⟨g, hgg⟩ : ∃ g, w.heap.size = g := ⟨_, rfl⟩
  have HGG := Lib.hid hgg
  clear hr hA hcm hn hq
  go_enter Tryd.func8, Tryd.ntmps8
  go_upto_region 1 with fail
  have KB0 := Bk.new w 41 #[.int .i64 bi, .string bk, .string bv, .slice bA bp.length bc]
  have L0 : Below w.heap.size w (w.alloc (.cells #[.int .i64 bi, .string bk, .string bv, .slice bA bp.length bc] 41)) := (by (first | assumption | (repeat (first | exact Below.refl _ _ | assumption | apply Below.drew | apply below_drewN | (refine Below.setCell ?_ (by (try simp) <;> omega) _) | (refine Below.alloc ?_ (by (try simp) <;> omega) _)))))
  obtain ⟨w0, hw0⟩ : ∃ W, w.alloc (.cells #[.int .i64 bi, .string bk, .string bv, .slice bA bp.length bc] 41) = W := ⟨_, rfl⟩
  rw [hw0] at KB0 L0 ⊢
  rw [hgg] at KB0
  have KB := Lib.hid KB0
  have B0 := Lib.hid L0
  clear hw0 KB0 L0 hgg
  go_wp2_with fail
  with_reducible refine (HF1.out _ B0.out).mono ?_
  rintro e w1 ⟨b1, rfl, hb1, hB1⟩
  have B2 := Lib.hid (B0.out.trans (hB1.mono B0.out.size))
  have KB2 := Lib.hid (KB.out.below hB1 KB.out.lt)
  have F1 := Lib.hid hb1
  clear hB1 hb1 HF1 B0 KB
  cases b1 with
  | false =>
    go_wp2_with fail
    with_reducible refine (hAl.out _ B2.out).mono ?_
    rintro e w3 ⟨rfl, hb3⟩
    go_wp2_with fail
    go_ret
    exact ⟨rfl, B2.out.trans (hb3.mono B2.out.size)⟩
  | true =>
  obtain ⟨hl7, hfl⟩ := F1.out rfl
  have FL := Lib.hid hfl
  clear hfl F1
  have hR1 := right_any A l c w1 (by rw [HN.out]; exact hl7) FL.out ((HA.out.below B2.out).more B2.out.size)
  rw [HN.out] at hR1
  have HR1 := Lib.hid hR1
  clear hR1
  go_wp2_with fail
  obtain ⟨s1, hs1⟩ : ∃ s, ascK l = s := ⟨_, rfl⟩
  rw [hs1] at HR1
  have HS1 := Lib.hid hs1
  clear hs1
  with_reducible refine HR1.out.mono ?_
  rintro e w3 ⟨rfl, hb3⟩
  have B4 := Lib.hid (B2.out.trans (hb3.mono B2.out.size))
  have KB4 := Lib.hid (KB2.out.below hb3 KB2.out.lt)
  clear hb3 HR1 B2 KB2
  cases s1 with
  | false =>
    go_wp2_with fail
    with_reducible refine (hAl.out _ B4.out).mono ?_
    rintro e w4 ⟨rfl, hb4⟩
    go_wp2_with fail
    go_ret
    exact ⟨rfl, B4.out.trans (hb4.mono B4.out.size)⟩
  | true =>
  have x2 := KB4.out.cell 2
  by_cases hbv : 300 < bv.size
  · have e1 : decide ((300 : Int) < (bv.size : Int)) = true := decide_eq_true (by omega)
    go_wp2_with fail
    with_reducible refine (hAl.out _ B4.out).mono ?_
    rintro e w4 ⟨rfl, hb4⟩
    go_wp2_with fail
    go_ret
    exact ⟨rfl, B4.out.trans (hb4.mono B4.out.size)⟩
  have e1 : decide ((300 : Int) < (bv.size : Int)) = false := decide_eq_false (by omega)
  obtain ⟨J, hJ⟩ : ∃ J, rootE l = J := ⟨_, rfl⟩
  have hJl : J.length = 32 := by rw [← hJ, rootE_len]
  have hbl : (bts J).length = 32 := by rw [bts_len, hJl]
  have hc1 := Root_any A l c w3 (by rw [HN.out]; exact hl7) FL.out (HR.out.below B4.out h0) (Nat.lt_of_lt_of_le h0 B4.out.size) ((HA.out.below B4.out).more B4.out.size)
  rw [rootV_asc HS1.out, hJ, HN.out] at hc1
  have HC1 := Lib.hid hc1
  have HJ := Lib.hid hJ
  clear hc1 hJ
  go_wp2_with fail
  with_reducible refine HC1.out.mono ?_
  rintro e w5 ⟨rfl, hb5⟩
  have B5 := Lib.hid (B4.out.trans (hb5.mono B4.out.size))
  have KB5 := Lib.hid (KB4.out.below hb5 KB4.out.lt)
  clear hb5 HC1 B4 KB4 x2
  go_upto_region 5 with (refine wpList_puts (by rfl) 26 _ _ (by with_reducible rfl) _ 0 (by rfl) (bts J) (by rfl) 26 (bts hash0) (by exact Bk.new _ _ _) 32 hbl (by rw [h0l]; omega) hi_hash bts_all ?_; intro w6 hb_ hm_ hz_; rw [put_hash0 _ hJl] at hb_; have KH6 := Lib.hid hb_; have M6 := Lib.hid hm_; clear hb_ hm_ hz_)
  have b56 : Below w5.heap.size w5 w6 := ((Below.refl w5.heap.size w5).alloc (Nat.le_refl _) (.cells (bts hash0).toArray 26)).trans (M6.out.to_below (by simp) (fun k o e => by rw [e]; exact Nat.le_refl _))
  have B6 := Lib.hid (B5.out.trans (b56.mono B5.out.size))
  have KB6 := Lib.hid (KB5.out.below b56 KB5.out.lt)
  have KA6 := KH6.out
  obtain ⟨ga, hga⟩ : ∃ g, w5.heap.size = g := ⟨_, rfl⟩
  rw [hga] at KA6 ⊢
  have KA := Lib.hid KA6
  clear KA6 KH6 M6 B5 KB5 hga b56
  have HPR := Lib.hid (prove_any A l n HN.out c key w6 hl7 FL.out HS1.out (HR.out.below B6.out h0) (Nat.lt_of_lt_of_le h0 B6.out.size) ((HA.out.below B6.out).more B6.out.size))
  go_wp2_with fail
  with_reducible refine HPR.out.mono ?_
  rintro e w7 ⟨i, ps, P, c', hlow, hof, rfl, hin, hb7⟩
  have B7 := Lib.hid (B6.out.trans (hb7.mono B6.out.size))
  have KA7 := Lib.hid (KA.out.below hb7 KA.out.lt)
  have KB7 := Lib.hid (KB6.out.below hb7 KB6.out.lt)
  have hps2 : ps.length ≤ 2 := by rw [hof.len]; exact idxs_len _ _ _
  obtain ⟨N0, hN0⟩ : ∃ N0, w6.heap.size = N0 := ⟨_, rfl⟩
  have HN0 : Hid (w.heap.size ≤ N0 ∧ ga < N0 ∧ g < N0) := Lib.hid (by rw [← hN0]; exact ⟨B6.out.size, KA.out.lt, KB6.out.lt⟩)
  rw [hN0] at hin
  have HIN := Lib.hid hin
  have HOF := Lib.hid hof
  obtain ⟨m, hm⟩ : ∃ m, ps.length = m := ⟨_, rfl⟩
  have HM := Lib.hid hm
  rw [hm] at hps2 ⊢
  clear hb7 HPR B6 KA KB6 hin hof hlow hm hN0
  go_upto_region 6 with fail
  have KP8 := Bk.new w7 38 #[.int .i64 (n : Int), .slice P m c']
  have hb78 : Below w7.heap.size w7 (w7.alloc (.cells #[.int .i64 (n : Int), .slice P m c'] 38)) := (by (first | assumption | (repeat (first | exact Below.refl _ _ | assumption | apply Below.drew | apply below_drewN | (refine Below.setCell ?_ (by (try simp) <;> omega) _) | (refine Below.alloc ?_ (by (try simp) <;> omega) _)))))
  obtain ⟨w8, hw8⟩ : ∃ W, w7.alloc (.cells #[.int .i64 (n : Int), .slice P m c'] 38) = W := ⟨_, rfl⟩
  obtain ⟨gb, hgb⟩ : ∃ g, w7.heap.size = g := ⟨_, rfl⟩
  rw [hw8] at KP8 hb78 ⊢
  have B8 := Lib.hid (B7.out.trans (hb78.mono B7.out.size))
  have KA8 := Lib.hid (KA7.out.below hb78 KA7.out.lt)
  have KB8 := Lib.hid (KB7.out.below hb78 KB7.out.lt)
  have HIN8 := Lib.hid (HIN.out.below hb78)
  rw [hgb] at KP8 ⊢
  have KP := Lib.hid KP8
  have HNE : Hid (ga ≠ gb ∧ w.heap.size ≤ gb) := Lib.hid (by rw [← hgb]; exact ⟨Nat.ne_of_lt KA7.out.lt, B7.out.size⟩)
  clear hw8 hgb KP8 hb78 B7 KA7 KB7 HIN
  have HFD := Lib.hid (rfind_any A l n c HN.out key w8 (by omega) ((HA.out.below B8.out).more B8.out.size))
  obtain ⟨⟨FS, fb⟩, hFS⟩ : ∃ x, findF key l = x := ⟨_, rfl⟩
  rw [hFS] at HFD
  have HFS := Lib.hid hFS
  clear hFS
  go_wp2_with fail
  with_reducible refine HFD.out.mono ?_
  rintro e w9 ⟨rfl, hb9⟩
  have B9 := Lib.hid (B8.out.trans (hb9.mono B8.out.size))
  have KA9 := Lib.hid (KA8.out.below hb9 KA8.out.lt)
  have KB9 := Lib.hid (KB8.out.below hb9 KB8.out.lt)
  have KP9 := Lib.hid (KP.out.below hb9 KP.out.lt)
  have HIN9 := Lib.hid (HIN8.out.below hb9)
  have x0 := KB9.out.cell 0
  clear hb9 HFD B8 KA8 KB8 KP HIN8
  have HBL : Hid (-9223372036854775808 ≤ bi ∧ bi < 9223372036854775808) := Lib.hid ⟨HQ.out.lo, HQ.out.hi⟩
  obtain ⟨ng, hng⟩ : ∃ b, decide (bi < 0) = b := ⟨_, rfl⟩
  go_upto_if 62 with fail
  have HNG := Lib.hid hng
  clear hng
  go_cut [14] from 63 to 65 (fun s wx => ∃ kk : Nat, s = .int .i64 (kk : Int) ∧ Hid ((kk : Int) < 9223372036854775808) ∧ wx = w9)
  case first =>
    cases ng with
    | true =>
      have hk0 : bi < 0 := of_decide_eq_true HNG.out
      obtain ⟨kk, hkk⟩ : ∃ kk : Nat, -(bi + 1) = (kk : Int) := ⟨(-(bi + 1)).toNat, by omega⟩
      have hk63 : Hid ((kk : Int) < 9223372036854775808) := Lib.hid (by have := HBL.out; omega)
      have e3 : IntKind.i64.wrap (bi + 1) = bi + 1 := IntWalk.i64_in _ (by have := HBL.out; omega)
      have e4 : IntKind.i64.wrap (-(bi + 1)) = -(bi + 1) := IntWalk.i64_in _ (by have := HBL.out; omega)
      have HKK := Lib.hid hkk
      clear hkk hk0
      go_wp2_with fail
      go_meet
      exact ⟨kk, by rw [← HKK.out], hk63, rfl⟩
    | false =>
      have hk0 : ¬ bi < 0 := of_decide_eq_false HNG.out
      have hk63 : Hid (bi < 9223372036854775808) := Lib.hid HBL.out.2
      obtain ⟨kk, rfl⟩ : ∃ kk : Nat, bi = (kk : Int) := ⟨bi.toNat, by omega⟩
      clear hk0
      go_wp2_with fail
      go_meet
      exact ⟨kk, rfl, hk63, rfl⟩
  case rest =>
    obtain ⟨kk, rfl, hkk, rfl⟩ := hcut
    have y0 := KP9.out.cell 0
    have y1 := KP9.out.cell 1
    obtain ⟨mp, hmp⟩ : ∃ b, decide ((0 : Int) < (m : Int)) = b := ⟨_, rfl⟩
    have hmp' : decide (0 < m) = mp := by rw [← hmp]; simp
    go_upto_if 69 with fail
    have HMP := Lib.hid hmp
    clear hmp hmp'
    go_cut [15] from 70 to 145 (fun _ wx => ∃ (s' : Int) (ps' : List PartV), -9223372036854775808 ≤ s' ∧ s' < 9223372036854775808 ∧ ps'.length = m ∧ (∀ p ∈ ps', p.fits ∧ p.good wx ∧ p.path.length ≤ 20) ∧ Sl wx wx.heap.size 4 P m (pCells ps') ∧ Bk wx gb 38 #[.int .i64 s', .slice P m c'] ∧ Bk wx ga 26 (bts J).toArray ∧ Below w.heap.size w wx)
    case first =>
      have HG9 := HIN9.out.good HOF.out (by rw [HN.out]; exact hl7)
      have HF9 : ∀ p ∈ ps, p.fits ∧ p.path.length ≤ 20 := fun p hp => by
        obtain ⟨j, hj⟩ := HOF.out.each p hp
        refine ⟨hj.fits (by rw [HN.out]; exact hl7) FL.out, ?_⟩
        rw [hj.path]
        have := way_short (l := l) j (by rw [HN.out]; exact hl7)
        omega
      have HF9 := Lib.hid HF9
      have HG9 := Lib.hid HG9
      cases mp with
      | false =>
        go_wp2_with fail
        go_meet
        obtain ⟨P', cc, e1_, _, _, hs_⟩ := own_sl HIN9.out.row
        injection e1_ with e2_
        refine ⟨(n : Int), ps, by omega, by omega, HM.out, fun p hp => ⟨(HF9.out p hp).1, HG9.out p hp, (HF9.out p hp).2⟩, ?_, KP9.out, KA9.out, B9.out⟩
        rw [← HM.out, e2_]
        exact hs_
      | true =>
        have hm0 : 0 < m := by have := of_decide_eq_true HMP.out; omega
        obtain ⟨j, hj⟩ : ∃ j, kk % m = j := ⟨_, rfl⟩
        have hjm : j < m := by rw [← hj]; exact Nat.mod_lt _ hm0
        have hj1 : (kk : Int).tmod (m : Int) = (j : Int) := by rw [← hj]; rfl
        have hj2 : (j : Int) < (m : Int) := by omega
        have hj3 : ¬ m = 0 := by omega
        have hj4 : (kk : Int) % (m : Int) = (j : Int) := by rw [← hj]; rfl
        obtain ⟨gq, cap, hPe, hgq⟩ : ∃ gq cap, Value.slice P ps.length c' = .slice (some ⟨gq, 0, none⟩) ps.length cap ∧ N0 ≤ gq := by
          rcases own_bk HIN9.out.row with ⟨h1, h2⟩ | ⟨gq, cap, rest, h1, h2, _⟩
          · exact absurd (HM.out.symm.trans h2) (by omega)
          · exact ⟨gq, cap, h1, h2⟩
        injection hPe with e1_ e2_ e3_
        subst e1_
        subst e3_
        go_upto_region 13 with fail
        clear hj
        go_quiet (fail)
        obtain ⟨wd, hwd⟩ : ∃ W, wc.drewN nq = W := ⟨_, rfl⟩
        have hcd : Below wc.heap.size wc wd := by rw [← hwd]; exact below_drewN (Below.refl _ _) _
        rw [hwd]
        have BD := Lib.hid (B9.out.trans (hcd.mono B9.out.size))
        have KAd := Lib.hid (KA9.out.below hcd KA9.out.lt)
        have KBd := Lib.hid (KB9.out.below hcd KB9.out.lt)
        have KPd := Lib.hid (KP9.out.below hcd KP9.out.lt)
        have HINd := Lib.hid (HIN9.out.below hcd)
        have HG0 : Hid (∀ p ∈ ps, h32 p.path ∧ -9223372036854775808 ≤ p.idx ∧ p.idx < 9223372036854775808) := Lib.hid (fun p hp => ⟨(HG9.out p hp).h, (HG9.out p hp).lo, (HG9.out p hp).hi⟩)
        obtain ⟨p, hp⟩ : ∃ p, ps[j]? = some p := ⟨_, List.getElem?_eq_getElem (by rw [HM.out]; exact hjm)⟩
        have HP := Lib.hid hp
        have hpm : p ∈ ps := List.mem_of_getElem? hp
        have HINm : Hid (PartsIn N0 ps (.slice (some ⟨gq, 0, none⟩) m c') wd) := Lib.hid (by have h := HINd.out; rw [HM.out] at h; exact h)
        have hcell : ∀ r : Nat, r < 4 → wd.cell? ⟨gq, j * 4 + r, none⟩ = p.cells[r]? := fun r hr => by
          have h1 := HINd.out.row
          rw [HM.out] at h1
          rw [h1.cellAt (j * 4 + r) (by omega)]
          exact flat_get' PartV.cells ps j p r pCells_len1 hp hr
        have hfro : ∀ r : Nat, wd.frozen? ⟨gq, j * 4 + r, none⟩ = false := fun r => HINd.out.row.frozenAt _
        have HCE := Lib.hid hcell
        have HFR := Lib.hid hfro
        obtain ⟨r5, hr5⟩ : ∃ r, kk % 5 = r := ⟨_, rfl⟩
        have hr5l : r5 < 5 := by rw [← hr5]; exact Nat.mod_lt _ (by omega)
        have h51 : (kk : Int).tmod 5 = (r5 : Int) := by rw [← hr5]; rfl
        have h52 : (kk : Int) % 5 = (r5 : Int) := by rw [← hr5]; rfl
        clear hwd hcd B9 KA9 KB9 KP9 HIN9 HG9 x0 y0 y1 hp hcell hfro hr5 hj1 hj2 hj3 hj4
        obtain rfl | rfl | rfl | rfl | rfl : r5 = 0 ∨ r5 = 1 ∨ r5 = 2 ∨ r5 = 3 ∨ r5 = 4 := by omega
        · have x2 := KBd.out.cell 2
          have z2 : wd.cell? ⟨gq, j * 4 + 2, none⟩ = some (.string p.e.2) := HCE.out 2 (by omega)
          have f2 := HFR.out 2
          go_wp2_with fail
          go_meet
          exact bent_set (r := 2) (p := p) (p' := { p with e := (p.e.1, bv) }) (by omega) (by omega) HM.out HN0.out.1 HINm.out HF9.out HG0.out HP.out (by omega) rfl (HINm.out.paths p hpm) ⟨⟨(HF9.out p hpm).1.1, by show bv.size ≤ 300; omega, (HF9.out p hpm).1.2.2⟩, (HF9.out p hpm).2⟩ (HG0.out p hpm) KPd.out KAd.out BD.out
        · have x0 := KBd.out.cell 0
          have z0 : wd.cell? ⟨gq, j * 4, none⟩ = some (.int .i64 p.idx) := HCE.out 0 (by omega)
          have f0 : wd.frozen? ⟨gq, j * 4, none⟩ = false := HFR.out 0
          obtain ⟨bq, hbq⟩ : ∃ q, bi.tmod 100 = q := ⟨_, rfl⟩
          have hq1 : -100 < bq := by rw [← hbq]; exact Int.lt_tmod_of_pos bi (by omega)
          have hq2 : bq < 100 := by rw [← hbq]; exact Int.tmod_lt_of_pos bi (by omega)
          have e5 : IntKind.i64.wrap bq = bq := IntWalk.i64_in _ (by omega)
          have HQ2 := Lib.hid (And.intro hq1 hq2)
          clear hq1 hq2
          go_upto_if 89 with fail
          go_wp2_with fail
          go_meet
          exact bent_set (r := 0) (p := p) (p' := { p with idx := bq }) (by omega) (by omega) HM.out HN0.out.1 HINm.out HF9.out HG0.out HP.out (by omega) rfl (HINm.out.paths p hpm) (HF9.out p hpm) ⟨(HG0.out p hpm).1, by show _ ≤ bq; have := HQ2.out.1; omega, by show bq < _; have := HQ2.out.2; omega⟩ KPd.out KAd.out BD.out
        · obtain ⟨pidx, pe, pA, pp, pc⟩ := p
          have HPA : Hid (PathAt N0 pp pA pc wd) := Lib.hid (HINm.out.paths _ hpm)
          have z3 : wd.cell? ⟨gq, j * 4 + 3, none⟩ = some (.slice pA pp.length pc) := HCE.out 3 (by omega)
          have x3 := KBd.out.cell 3
          obtain ⟨pl, hpl⟩ : ∃ k, pp.length = k := ⟨_, rfl⟩
          obtain ⟨bl, hbl'⟩ : ∃ k, bp.length = k := ⟨_, rfl⟩
          have HPL := Lib.hid hpl
          have HBLN := Lib.hid hbl'
          rw [hpl] at z3
          rw [hbl'] at x3
          clear hpl hbl'
          by_cases hp0 : 0 < pl
          · have d1 : decide ((0 : Int) < (pl : Int)) = true := decide_eq_true (by omega)
            by_cases hb0 : 0 < bl
            · have d2 : decide ((0 : Int) < (bl : Int)) = true := decide_eq_true (by omega)
              have hslb : Sl w w.heap.size 32 bA bp.length (hCells bp) := HQ.out.sl
              obtain ⟨bb, bo, x, rfl, hbb, hbx, hrx⟩ := hslb.hsh HQ.out.h (k := 0) (by rw [HBLN.out]; exact hb0)
              rw [Nat.zero_mul, Nat.add_zero] at hrx
              have hxl : x.length = 32 := HQ.out.h x (List.mem_of_getElem? hbx)
              have hbxl : (bts x).length = 32 := by rw [bts_len, hxl]
              obtain ⟨pm, rfl⟩ : ∃ pm, pl = pm + 1 := ⟨pl - 1, by omega⟩
              obtain ⟨gx, cap, rest, hPe2, _, hcc1, hcc2, _, hgxk⟩ : ∃ gx cap rest, Value.slice pA pp.length pc = .slice (some ⟨gx, 0, none⟩) pp.length cap ∧ N0 ≤ gx ∧ pp.length ≤ cap ∧ cap ≤ maxLen ∧ (hCells pp ++ rest).length = cap * 32 ∧ Bk wd gx 26 (hCells pp ++ rest).toArray := by
                rcases own_bk (show World.ownsRow _ _ _ _ _ _ _ from HPA.out) with ⟨h1, h2⟩ | h
                · rw [HPL.out] at h2; omega
                · exact h
              injection hPe2 with e1_ _ e3_
              subst e1_
              subst e3_
              rw [HPL.out] at hcc1
              have HGX := Lib.hid hgxk.lt
              have HGQ : Hid (gq < wd.heap.size) := Lib.hid (by
                rcases own_bk HINm.out.row with ⟨h1, h2⟩ | ⟨g_, _, _, h1, _, _, _, _, h2⟩
                · rw [HM.out] at h2; omega
                · injection h1 with h1 _ _
                  injection h1 with h1
                  injection h1 with h1 _ _
                  rw [h1]
                  exact h2.lt)
              have HSLP : Hid (∀ W, Below wd.heap.size wd W → Sl W W.heap.size 32 (some ⟨gx, 0, none⟩) (pm + 1) (hCells pp)) := Lib.hid (fun W hW => by
                obtain ⟨P', cc, e1, _, _, hs⟩ := own_sl (show World.ownsRow _ _ _ _ _ _ _ from HPA.out)
                injection e1 with e2 _ _
                rw [HPL.out, ← e2] at hs
                exact (hs.below hW).more hW.size)
              obtain ⟨i0, hii, hz0, hz1, hz2⟩ := info_parts hash_info
              have HHX := Lib.hid hrx
              have HBB := Lib.hid hbb
              have HCC2 := Lib.hid hcc2
              have X3 := Lib.hid x3
              have Z3 := Lib.hid z3
              clear hslb hrx hbb hgxk
              go_upto_region 21 with fail
              clear x3 z3
              have HW : Hid (∀ W, Below wd.drew.heap.size wd.drew W → W.cell? ⟨g, 3, none⟩ = some (.slice (some ⟨bb, bo, none⟩) bl bc) ∧ W.rangeAt bb bo (bts x) ∧ W.cell? ⟨gq, j * 4 + 3, none⟩ = some (.slice (some ⟨gx, 0, none⟩) (pm + 1) pc) ∧ Below wd.heap.size wd W ∧ wd.heap.size ≤ W.heap.size) := Lib.hid (fun W hW =>
                have hd : Below wd.heap.size wd wd.drew := (Below.refl _ _).drew
                have h1 : Below wd.heap.size wd W := hd.trans (hW.mono hd.size)
                ⟨(h1.cell (p := ⟨g, 3, none⟩) KBd.out.lt).trans X3.out, rangeAt_below HHX.out (BD.out.trans (h1.mono BD.out.size)) HBB.out, (h1.cell (p := ⟨gq, j * 4 + 3, none⟩) HGQ.out).trans Z3.out, h1, h1.size⟩)
              refine wp_region_part [0, 1, 2, 3, 4, 5, 6, 7, 8, 9, 10] [0] [11, 12, 13, 14] (lstV [fun v _ => v = .pointer (some ⟨gq, j * 4, none⟩), fun v _ => v = .pointer (some ⟨g, 3, none⟩), fun v _ => v = .slice (some ⟨bb, bo, none⟩) bl bc, fun v _ => v = .pointer (some ⟨bb, bo, none⟩), fun v _ => v = .agg (bts x).toArray, OneH wd.heap.size x, fun v _ => v = .pointer (some ⟨gq, j * 4, none⟩), fun v _ => v = .pointer (some ⟨gq, j * 4, none⟩), fun v _ => v = .pointer (some ⟨gq, j * 4 + 3, none⟩), fun v _ => v = .slice (some ⟨gx, 0, none⟩) (pm + 1) pc, SlH pm (pp.drop 1)]) (by kernel_rfl) (by kernel_rfl) (lstV_on (by repeat' (first | exact forall_nil | refine forall_cons ?_ ?_ | exact stays_oneh _ _ | exact stays_slh _ _ | exact stays_eq _))) ?turns ?hq ?lazy ?fin
              case hq => intro c_ a_ d_ v_ w_ h_; cases d_ <;> exact h_
              case turns =>
                refine ⟨fun o ho a W pre => ?_, fun o ho a W pre => ?_, fun o ho a W pre => ?_, fun o ho a W pre => ?_, fun o ho a W pre => ?_, fun o ho a W pre => ?_, fun o ho a W pre => ?_, fun o ho a W pre => ?_, fun o ho a W pre => ?_, fun o ho a W pre => ?_, fun o ho a W pre => ?_, trivial⟩
                all_goals (obtain rfl := (Option.some.inj ho).symm; clear ho)
                · (refine .inl ?_; have q0 : a.eval (.tmp 15) = .pointer (some ⟨gq, j * 4, none⟩) := pre.was 15 (by kernel_rfl) rfl; rw [Act.eval, Array.getD_eq_getD_getElem?] at q0; exact does_val (want_none rfl) (by go_simp) rfl)
                · (refine .inl ?_; have q0 : a.eval (.tmp 5) = .pointer (some ⟨g, 0, none⟩) := pre.was 5 (by kernel_rfl) rfl; rw [Act.eval, Array.getD_eq_getD_getElem?] at q0; exact does_val (want_none rfl) (by go_simp) rfl)
                · have c0 := (HW.out W pre.b).1
                  (refine .inl ?_; have q0 : a.eval (.tmp 112) = .pointer (some ⟨g, 3, none⟩) := pre.val 1 112 (by kernel_rfl) (by kernel_rfl); rw [Act.eval, Array.getD_eq_getD_getElem?] at q0; exact does_val (want_none rfl) (by go_simp) rfl)
                · have c0 : (0 : Int) < (bl : Int) := by omega
                  (refine .inl ?_; have q0 : a.eval (.tmp 113) = .slice (some ⟨bb, bo, none⟩) bl bc := pre.val 2 113 (by kernel_rfl) (by kernel_rfl); rw [Act.eval, Array.getD_eq_getD_getElem?] at q0; exact does_val (want_none rfl) (by go_simp) rfl)
                · refine .inl ?_
                  have q0 : a.eval (.tmp 114) = .pointer (some ⟨bb, bo, none⟩) := pre.val 3 114 (by kernel_rfl) (by kernel_rfl)
                  exact does_val (want_none rfl) (run_ldh _ rfl bb bo q0 x hxl (HW.out W pre.b).2.1) rfl
                · refine .inl ?_
                  have q0 : a.eval (.tmp 115) = .agg (bts x).toArray := pre.val 4 115 (by kernel_rfl) (by kernel_rfl)
                  have hb_ : Below W.heap.size W (W.alloc (.cells (bts x).toArray 26)) := (by (first | assumption | (repeat (first | exact Below.refl _ _ | assumption | apply Below.drew | apply below_drewN | (refine Below.setCell ?_ (by (try simp) <;> omega) _) | (refine Below.alloc ?_ (by (try simp) <;> omega) _)))))
                  exact does_new (want_none rfl) (run_slice_one 39 26 _ rfl Tryd.underlying39 (bts x) q0 32 hbxl (by omega) (by omega) (fun w => Tryd.sizeOf26 w) _ (fun w => zero_hash w)) hb_ ⟨W.heap.size, rfl, (HW.out W pre.b).2.2.2.2, Bk.new W _ _⟩
                · (refine .inl ?_; have q0 : a.eval (.tmp 15) = .pointer (some ⟨gq, j * 4, none⟩) := pre.was 15 (by kernel_rfl) rfl; rw [Act.eval, Array.getD_eq_getD_getElem?] at q0; exact does_val (want_none rfl) (by go_simp) rfl)
                · (refine .inl ?_; have q0 : a.eval (.tmp 117) = .pointer (some ⟨gq, j * 4, none⟩) := pre.val 6 117 (by kernel_rfl) (by kernel_rfl); rw [Act.eval, Array.getD_eq_getD_getElem?] at q0; exact does_val (want_none rfl) (by go_simp) rfl)
                · (refine .inl ?_; have q0 : a.eval (.tmp 118) = .pointer (some ⟨gq, j * 4, none⟩) := pre.val 7 118 (by kernel_rfl) (by kernel_rfl); rw [Act.eval, Array.getD_eq_getD_getElem?] at q0; exact does_val (want_none rfl) (by go_simp) rfl)
                · have c0 := (HW.out W pre.b).2.2.1
                  (refine .inl ?_; have q0 : a.eval (.tmp 119) = .pointer (some ⟨gq, j * 4 + 3, none⟩) := pre.val 8 119 (by kernel_rfl) (by kernel_rfl); rw [Act.eval, Array.getD_eq_getD_getElem?] at q0; exact does_val (want_none rfl) (by go_simp) rfl)
                · refine .inl ?_
                  have q0 : a.eval (.tmp 120) = .slice (some ⟨gx, 0, none⟩) (pm + 1) pc := pre.val 9 120 (by kernel_rfl) (by kernel_rfl)
                  rw [Act.eval, Array.getD_eq_getD_getElem?] at q0
                  have hsl := HSLP.out W (HW.out W pre.b).2.2.2.1
                  have e3 : (1 : Int) ≤ ((pm + 1 : Nat) : Int) := by omega
                  by_cases hc1 : pc = 1
                  · obtain rfl : pm = 0 := by omega
                    subst hc1
                    refine does_val (v := .slice (some ⟨gx, 0, none⟩) 0 0) (want_none rfl) ?_ ⟨_, _, rfl, ⟨by rw [List.drop_eq_nil_of_le (by rw [HPL.out]; omega)]; rfl, fun h => absurd h (by omega)⟩⟩
                    go_simp
                  · have hc1' : ¬ 1 = pc := fun h => hc1 h.symm
                    refine does_val (v := .slice (some ⟨gx, 32, none⟩) pm (pc - 1)) (want_none rfl) ?_ ⟨_, _, rfl, ?_⟩
                    · go_simp
                      intro h_
                      omega
                    · by_cases hpm0 : pm = 0
                      · subst hpm0
                        exact ⟨by rw [List.drop_eq_nil_of_le (by rw [HPL.out]; omega)]; rfl, fun h => absurd h (by omega)⟩
                      · rw [← HPL.out] at hsl
                        have h9 := hsl.hdrop (HG0.out _ hpm).1 (k := 1) (cap := pp.length) (by rw [HPL.out]; omega) (Nat.le_refl _)
                        rw [List.length_drop, HPL.out] at h9
                        exact h9
              case lazy =>
                refine ⟨fun o ho a W pre => ?_, trivial⟩
                all_goals (obtain rfl := (Option.some.inj ho).symm; clear ho)
                have q0 : a.eval (.tmp 15) = .pointer (some ⟨gq, j * 4, none⟩) := pre.was 15 (by kernel_rfl) rfl
                rw [Act.eval, Array.getD_eq_getD_getElem?] at q0
                exact ⟨_, want_none rfl, fun W' => by go_simp, rfl⟩
              case fin =>
                intro a W hbW hsz2 hd hv ho
                obtain ⟨-, -, -, hbw, hzw⟩ := HW.out W hbW
                obtain ⟨T, D⟩ := a
                obtain rfl : D = _ := hd
                have q0 : T.getD 111 undef = .pointer (some ⟨gq, j * 4, none⟩) := hv 0 111 (by decide) (by kernel_rfl)
                obtain ⟨g1, q5, q5n, q5k⟩ : OneH wd.heap.size x (T.getD 116 undef) W := hv 5 116 (by decide) (by kernel_rfl)
                obtain ⟨A2, c2, q10, q10s⟩ : SlH pm (pp.drop 1) (T.getD 121 undef) W := hv 10 121 (by decide) (by kernel_rfl)
                have hT := sets_of [111, 112, 113, 114, 115, 116, 117, 118, 119, 120, 121, 122, 123, 124] _ hsz2 (fun t ht => ho t (dst_in (by kernel_rfl) ht))
                simp only [List.foldl_cons, List.foldl_nil, q0, q5, q10, List.setIfInBounds_toArray, List.set_cons_succ, List.set_cons_zero] at hT
                clear q0 q5 q10 hv ho hsz2 HW
                generalize T.getD 112 undef = u112 at hT
                generalize T.getD 113 undef = u113 at hT
                generalize T.getD 114 undef = u114 at hT
                generalize T.getD 115 undef = u115 at hT
                generalize T.getD 117 undef = u117 at hT
                generalize T.getD 118 undef = u118 at hT
                generalize T.getD 119 undef = u119 at hT
                generalize T.getD 120 undef = u120 at hT
                generalize T.getD 122 undef = u122 at hT
                generalize T.getD 123 undef = u123 at hT
                generalize T.getD 124 undef = u124 at hT
                subst hT
                simp only [List.filterMap_cons, List.filterMap_nil, List.getElem?_toArray, List.getElem?_cons_succ, List.getElem?_cons_zero]
                show wpList _ _ _ (_ :: _ :: _ :: _ :: []) _ _
                have hrow : W.ownsRow wd.heap.size 26 32 (.slice (some ⟨g1, 0, none⟩) 1 1) 1 (bts x) := own_of_bk (rest := []) q5n (by omega) (by unfold maxLen; omega) (by rw [List.append_nil, hbxl]) (by rw [hbxl]) (by rw [List.append_nil]; exact q5k)
                have hone : ∀ u ∈ hCells (pp.drop 1), u.oneCell' = true := fun u hu => by
                  obtain ⟨a_, _, hu⟩ := List.mem_flatMap.1 hu
                  exact bts_one u hu
                have h63 : 1 + pm ≤ maxLen := by have := HCC2.out; omega
                have hby : (1 + pm) * 32 ≤ 140737488355328 := by have := (HF9.out _ hpm).2; rw [HPL.out] at this; omega
                refine wpList_append_sl _ (by rfl) _ _ 39 (by rfl) wd.heap.size 26 i0 _ 32 32 Tryd.underlying39 hii hz0 hz1 hz2 h0l (by omega) (.slice (some ⟨g1, 0, none⟩) 1 1) 1 (bts x) (by rfl) hrow A2 pm c2 (hCells (pp.drop 1)) (by rfl) q10s hone h63 hby hzw ?_
                intro v5 w5_ ho_ hg_ hv_
                have hpn : (x :: pp.drop 1).length = 1 + pm := by rw [List.length_cons, List.length_drop, HPL.out]; omega
                obtain ⟨g5, cap5, rfl⟩ : ∃ g cap, v5 = .slice (some ⟨g, 0, none⟩) (1 + pm) cap := by
                  rw [Nat.add_comm] at ho_ ⊢
                  exact ownsRow_succ ho_
                have hb5 : Below wd.heap.size wd w5_ := hbw.grown hg_ hzw (fun k hk => by
                  have hk' : some g1 = some k := hk
                  injection hk' with hk'
                  rw [← hk']
                  exact q5n)
                have IN5 := Lib.hid (HINm.out.below hb5)
                have BE := Lib.hid (BD.out.trans (hb5.mono BD.out.size))
                have KAe := Lib.hid (KAd.out.below hb5 KAd.out.lt)
                have KPe := Lib.hid (KPd.out.below hb5 KPd.out.lt)
                have PA5 : Hid (PathAt N0 (x :: pp.drop 1) (some ⟨g5, 0, none⟩) cap5 w5_) := Lib.hid (by
                  unfold PathAt
                  rw [hpn]
                  exact ho_.mono (by have := HGQ.out; omega))
                have y3 : w5_.cell? ⟨gq, j * 4 + 3, none⟩ = some (.slice (some ⟨gx, 0, none⟩) (pm + 1) pc) := (hb5.cell (p := ⟨gq, j * 4 + 3, none⟩) HGQ.out).trans Z3.out
                have g3 : w5_.frozen? ⟨gq, j * 4 + 3, none⟩ = false := (HINd.out.below hb5).row.frozenAt _
                have h32x : h32 (x :: pp.drop 1) := fun a ha => by
                  rcases List.mem_cons.1 ha with rfl | ha
                  · exact hxl
                  · exact (HG0.out _ hpm).1 a (List.mem_of_mem_drop ha)
                have hpl20 : (x :: pp.drop 1).length = pp.length := by rw [hpn, HPL.out]; omega
                have HEND : Hid (BentTo w ga gb m c' (some ⟨gq, 0, none⟩) J (w5_.setCell ⟨gq, j * 4 + 3, none⟩ (.slice (some ⟨g5, 0, none⟩) (1 + pm) cap5))) := Lib.hid (by
                  have hff := HF9.out _ hpm
                  exact bent_set (r := 3) (p := ⟨pidx, pe, some ⟨gx, 0, none⟩, pp, pc⟩) (p' := PartV.wayP ⟨pidx, pe, some ⟨gx, 0, none⟩, pp, pc⟩ (some ⟨g5, 0, none⟩) (x :: pp.drop 1) cap5) (by omega) (by omega) HM.out HN0.out.1 IN5.out HF9.out HG0.out HP.out (by omega) (PartV.wayP_cells _ _ _ _ hpn) PA5.out ⟨⟨hff.1.1, hff.1.2.1, by show (x :: pp.drop 1).length ≤ 1000; rw [hpl20]; exact hff.1.2.2⟩, by show (x :: pp.drop 1).length ≤ 20; rw [hpl20]; exact hff.2⟩ ⟨h32x, (HG0.out _ hpm).2.1, (HG0.out _ hpm).2.2⟩ KPe.out KAe.out BE.out)
                clear ho_ hg_ hv_ hb5 hrow hone h63 hby q10s q5k q5n hbw hzw hbW
                go_wp2_with fail
                go_meet
                exact HEND.out
            · obtain rfl : bl = 0 := by omega
              go_wp2_with fail
              go_meet
              exact bent_as (by omega) (by omega) HM.out HINm.out HF9.out HG0.out KPd.out KAd.out BD.out
          · obtain rfl : pl = 0 := by omega
            go_wp2_with fail
            go_meet
            exact bent_as (by omega) (by omega) HM.out HINm.out HF9.out HG0.out KPd.out KAd.out BD.out
        · have x0 := KPd.out.cell 0
          have f0 := KPd.out.frozen 0
          go_wp2_with fail
          go_meet
          exact bent_size (by omega) (by omega) HM.out HNE.out.1 HNE.out.2 HINm.out HF9.out HG0.out KPd.out KAd.out BD.out
        · obtain ⟨pidx, pe, pA, pp, pc⟩ := p
          have HPA : Hid (PathAt N0 pp pA pc wd) := Lib.hid (HINm.out.paths _ hpm)
          have z3 : wd.cell? ⟨gq, j * 4 + 3, none⟩ = some (.slice pA pp.length pc) := HCE.out 3 (by omega)
          have f3 := HFR.out 3
          have Z3 := Lib.hid z3
          obtain ⟨k, hk⟩ : ∃ k, pp.length / 2 = k := ⟨_, rfl⟩
          obtain ⟨pl, hpl⟩ : ∃ k, pp.length = k := ⟨_, rfl⟩
          have HPL := Lib.hid hpl
          have HK := Lib.hid hk
          have hkp : k ≤ pl := by omega
          have hk2 : (pl : Int) / 2 = (k : Int) := by omega
          have hk3 : (pl : Int).tdiv 2 = (k : Int) := by rw [Int.tdiv_eq_ediv_of_nonneg (by omega)]; exact hk2
          rw [hpl] at z3
          clear hk hpl
          go_upto_region 25 with fail
          clear z3 f3
          with_reducible refine wp_still_tail 14 (by kernel_rfl) (by kernel_rfl) fun we hwe => ?_
          simp only [List.take_succ_cons, List.take_zero, List.drop_succ_cons, List.drop_zero]
          have hde : Below wd.heap.size wd we := by rw [hwe]; exact (Below.refl _ _).drew
          have BE := Lib.hid (BD.out.trans (hde.mono BD.out.size))
          have KAe := Lib.hid (KAd.out.below hde KAd.out.lt)
          have KPe := Lib.hid (KPd.out.below hde KPd.out.lt)
          have INe := Lib.hid (HINm.out.below hde)
          have PAe : Hid (PathAt N0 pp pA pc we) := Lib.hid (INe.out.paths _ hpm)
          have y3 : we.cell? ⟨gq, j * 4 + 3, none⟩ = some (.slice pA pl pc) := by rw [hwe, ← HPL.out]; exact Z3.out
          have g3 : we.frozen? ⟨gq, j * 4 + 3, none⟩ = false := by rw [hwe]; exact HFR.out 3
          clear hwe hde
          have HEND : Hid (BentTo w ga gb m c' (some ⟨gq, 0, none⟩) J (we.setCell ⟨gq, j * 4 + 3, none⟩ (.slice pA k pc))) := Lib.hid (by
            have hkl : k ≤ pp.length := by rw [HPL.out]; exact hkp
            have ht : (pp.take k).length ≤ pp.length := by rw [List.length_take]; omega
            have hff := HF9.out _ hpm
            exact bent_set (r := 3) (p := ⟨pidx, pe, pA, pp, pc⟩) (p' := PartV.cutP ⟨pidx, pe, pA, pp, pc⟩ k) (by omega) (by omega) HM.out HN0.out.1 INe.out HF9.out HG0.out HP.out (by omega) (PartV.cutP_cells hkl) (PAe.out.cut (HG0.out _ hpm).1 hkl) ⟨⟨hff.1.1, hff.1.2.1, Nat.le_trans ht hff.1.2.2⟩, Nat.le_trans ht hff.2⟩ ⟨(HG0.out _ hpm).1.take k, (HG0.out _ hpm).2.1, (HG0.out _ hpm).2.2⟩ KPe.out KAe.out BE.out)
          rcases own_bk (show World.ownsRow _ _ _ _ _ _ _ from PAe.out) with ⟨h1, h2⟩ | ⟨gx, cap, rest, h1, _, h2, h3, _⟩
          · injection h1 with e1_ e2_ e3_
            subst e1_
            subst e3_
            rw [HPL.out] at h2
            subst h2
            obtain rfl : k = 0 := by omega
            have hk4 : IntKind.i64.wrap 0 = 0 := by rfl
            have hk5 : Int.tdiv 0 2 = 0 := by rfl
            clear e2_ HPA hk2 hk3
            repeat still_step
            with_reducible refine wpStill_nil ?_
            go_wp2_with fail
            go_meet
            exact HEND.out
          · injection h1 with e1_ e2_ e3_
            subst e1_
            subst e3_
            rw [HPL.out] at h2
            have hkc : k ≤ pc := by omega
            have hk4 : IntKind.i64.wrap (k : Int) = (k : Int) := IntWalk.i64_in _ (by unfold maxLen at h3; omega)
            clear e2_ HPA
            repeat still_step
            with_reducible refine wpStill_nil ?_
            go_wp2_with fail
            go_meet
            exact HEND.out
    case rest =>
      obtain ⟨s', ps', t1, t2, t3, t4, t5, t6, t7, t8⟩ := hcut
      have HCK := check_any J hJl key s' ps' P c' wc t1 t2 (by omega) (fun p hp => (t4 p hp).1) (fun p hp => (t4 p hp).2.1) (HR.out.below t8 h0) (Nat.lt_of_lt_of_le h0 t8.size) (by rw [t3]; exact t5)
      rw [t3] at HCK
      obtain ⟨⟨S, b1, b2⟩, hS⟩ : ∃ x, checkF J key s' ps' = x := ⟨_, rfl⟩
      rw [hS] at HCK
      unfold resV at HCK
      simp only at HCK
      have HCK := Lib.hid HCK
      have HWS := Lib.hid (fun W (hb : Below wc.heap.size wc W) => ways_any s' ps' m t3 (by omega) P c' W t1 t2 (fun p hp => (t4 p hp).1) (fun p hp => (t4 p hp).2.1.below hb) (by rw [t3]; exact (t5.below hb).more hb.size))
      have HTX := Lib.hid (fun W (hb : Below w.heap.size w W) => texts_any n l A c W HN.out hl7 hlc HCM.out FL.out ((HA.out.below hb).more hb.size))
      have HBT : Hid (b2 = true → (S, b1) ≠ (FS, fb) → Clashes (textsE l ++ waysT s' ps')) := Lib.hid (fun hb hne => by
        rw [← HFS.out] at hne
        refine bent (riseK_of HS1.out) FL.out (fun p hp => ?_) (fun p hp => (t4 p hp).2.1.h) ?_ hne
        · have := (t4 p hp).1.1
          omega
        · rw [HJ.out, hS, hb])
      have KAc := Lib.hid t7
      have KPc := Lib.hid t6
      have BC := Lib.hid t8
      have PSL := Lib.hid t3
      have HW2 := Lib.hid (waysT_few (size := s') (ps := ps') (by omega) (fun p hp => (t4 p hp).2.2))
      have HW3 := Lib.hid (waysT_short (size := s') (ps := ps') (fun p hp => (t4 p hp).1) (fun p hp => (t4 p hp).2.1.h))
      have v0 := t6.cell 0
      have v1 := t6.cell 1
      clear hS t1 t2 t3 t4 t5 t6 t7 t8 y0 y1 x0
      go_wp2_with (refine wpList_val (by rfl) (run_ldh _ (by with_reducible rfl) ga 0 (by rfl) J hJl (by exact KAc.out.all)) ?_)
      with_reducible refine HCK.out.mono ?_
      rintro e wd ⟨rfl, hbd⟩
      have BD := Lib.hid (BC.out.trans (hbd.mono BC.out.size))
      have KPd := Lib.hid (KPc.out.below hbd KPc.out.lt)
      have BCD := Lib.hid hbd
      clear hbd HCK v0 v1
      go_upto_region 27 with fail
      obtain ⟨bad, hbad⟩ : ∃ x, (b2 && (!decide (S = FS) || b1 != fb)) = x := ⟨_, rfl⟩
      have HBAD := Lib.hid hbad
      clear hbad
      go_cut [164] from 154 to 164 (fun s wx => s = .bool bad ∧ wx = wd)
      case first =>
        by_cases hSF : S = FS
        · have g1 : (S.toList == FS.toList) = true := by rw [eqK, decide_eq_true hSF]
          have g2 : S.toList = FS.toList := by rw [hSF]
          have HB := HBAD.out
          rw [decide_eq_true hSF] at HB
          clear hSF HBAD
          cases b2 <;> cases b1 <;> cases fb <;> (simp at HB; subst HB; go_wp2_with fail; go_meet; exact ⟨rfl, rfl⟩)
        · have g1 : (S.toList == FS.toList) = false := by rw [eqK, decide_eq_false hSF]
          have g2 : ¬ S.toList = FS.toList := by simpa using g1
          have HB := HBAD.out
          rw [decide_eq_false hSF] at HB
          clear hSF HBAD
          cases b2 <;> (simp at HB; subst HB; go_wp2_with fail; go_meet; exact ⟨rfl, rfl⟩)
      case rest =>
        obtain ⟨rfl, rfl⟩ := hcut
        cases bad with
        | false =>
          go_wp2_with fail
          with_reducible refine (hAl.out _ BD.out).mono ?_
          rintro e we ⟨rfl, hbe⟩
          go_wp2_with fail
          go_ret
          exact ⟨rfl, BD.out.trans (hbe.mono BD.out.size)⟩
        | true =>
          have hb := HBAD.out
          rw [Bool.and_eq_true] at hb
          have hcl : Clashes (textsE l ++ waysT s' ps') := HBT.out hb.1 (fun e => by
            have h1 := (Prod.mk.inj e).1
            have h2 := (Prod.mk.inj e).2
            rw [h1, h2] at hb
            simp at hb)
          have HCL := Lib.hid hcl
          clear hb hcl HBAD HBT
          go_upto_region 28 with fail
          obtain ⟨L1, hL1⟩ : ∃ L, textsE l = L := ⟨_, rfl⟩
          obtain ⟨L2, hL2⟩ : ∃ L, waysT s' ps' = L := ⟨_, rfl⟩
          have hL1l : L1.length ≤ 140 := by rw [← hL1]; exact textsE_le (by rw [HN.out]; exact hl7)
          have hLL : L1.length + L2.length ≤ 1000 := by have := HW2.out; rw [hL2] at this; omega
          have HLO : Hid (∀ b ∈ L1 ++ L2, b.length ≤ 100000) := Lib.hid (fun b hb => by
            rw [List.mem_append] at hb
            rcases hb with hb | hb
            · have := texts_small _ l rfl FL.out b (by rw [hL1]; exact hb); omega
            · have := HW3.out b (by rw [hL2]; exact hb); omega)
          rw [hL1] at HTX HCL
          rw [hL2] at HWS HCL
          obtain ⟨i0, hii, hz0, hz1, hz2⟩ := info_parts slu8_info
          have HW : Hid (∀ W, Below wc.drew.heap.size wc.drew W → W.cell? ⟨gb, 0, none⟩ = some (.int .i64 s') ∧ W.cell? ⟨gb, 1, none⟩ = some (.slice P m c') ∧ Below w.heap.size w W ∧ Below wc.heap.size wc W) := Lib.hid (fun W hW =>
            have hd : Below wc.heap.size wc wc.drew := (Below.refl _ _).drew
            have h0 : Below wc.heap.size wc W := hd.trans (hW.mono hd.size)
            ⟨(KPd.out.below h0 KPd.out.lt).cell 0, (KPd.out.below h0 KPd.out.lt).cell 1, BD.out.trans (h0.mono BD.out.size), h0⟩)
          clear hL1 hL2
          have hwc : w.heap.size ≤ wc.heap.size := BD.out.size
          refine wp_region_part [0, 1, 2, 3, 4, 5] [] [6, 7, 8, 9] (lstV [fun v _ => v = .bool true, fun v _ => v = .bool true, fun v _ => v = .slice A n c, RdsAt w.heap.size L1, fun v _ => v = .agg #[.int .i64 s', .slice P m c'], RdsAt w.heap.size L2]) (by kernel_rfl) (by kernel_rfl) (lstV_on (by repeat' (first | exact forall_nil | refine forall_cons ?_ ?_ | exact stays_rds _ _ | exact stays_eq _))) ?turns ?hq trivial ?fin
          case hq => intro c_ a_ d_ v_ w_ h_; cases d_ <;> exact h_
          case turns =>
            refine ⟨fun o ho a W pre => ?_, fun o ho a W pre => ?_, fun o ho a W pre => ?_, fun o ho a W pre => ?_, fun o ho a W pre => ?_, fun o ho a W pre => ?_, trivial⟩
            all_goals (obtain rfl := (Option.some.inj ho).symm; clear ho)
            · refine .inl ?_
              exact does_call (want_none rfl) (by go_simp) (hAl.out W (HW.out W pre.b).2.2.1) (fun _ => rfl)
            · (refine .inl ?_; have q0 : a.eval (.tmp 165) = .bool true := pre.val 0 165 (by kernel_rfl) (by kernel_rfl); rw [Act.eval, Array.getD_eq_getD_getElem?] at q0; exact does_val (want_none rfl) (by go_simp) rfl)
            · (refine .inl ?_; have q0 : a.eval (.tmp 0) = .slice A n c := pre.was 0 (by kernel_rfl) rfl; rw [Act.eval, Array.getD_eq_getD_getElem?] at q0; exact does_val (want_some (b := true) (g := 1) (dg := 166) rfl (by kernel_rfl) (by rw [pre.size]; simp) (pre.val 1 166 (by kernel_rfl) (by kernel_rfl))) (by go_simp) rfl)
            · refine .inl ?_
              have q0 : a.eval (.tmp 167) = .slice A n c := pre.val 2 167 (by kernel_rfl) (by kernel_rfl)
              rw [Act.eval, Array.getD_eq_getD_getElem?] at q0
              refine does_callx (want_some (b := true) (g := 1) (dg := 166) rfl (by kernel_rfl) (by rw [pre.size]; simp) (pre.val 1 166 (by kernel_rfl) (by kernel_rfl))) (by go_simp) ((HTX.out W (HW.out W pre.b).2.2.1).mono fun e W' h => ?_)
              obtain ⟨v, rfl, h1, h2⟩ := h
              exact ⟨v, rfl, h1.low (HW.out W pre.b).2.2.1.size, h2⟩
            · have c0 := (HW.out W pre.b).1
              have c1 := (HW.out W pre.b).2.1
              (refine .inl ?_; have q0 : a.eval (.tmp 10) = .pointer (some ⟨gb, 0, none⟩) := pre.was 10 (by kernel_rfl) rfl; rw [Act.eval, Array.getD_eq_getD_getElem?] at q0; exact does_val (want_some (b := true) (g := 1) (dg := 166) rfl (by kernel_rfl) (by rw [pre.size]; simp) (pre.val 1 166 (by kernel_rfl) (by kernel_rfl))) (by go_simp) rfl)
            · refine .inl ?_
              have q0 : a.eval (.tmp 169) = .agg #[.int .i64 s', .slice P m c'] := pre.val 4 169 (by kernel_rfl) (by kernel_rfl)
              rw [Act.eval, Array.getD_eq_getD_getElem?] at q0
              refine does_callx (want_some (b := true) (g := 1) (dg := 166) rfl (by kernel_rfl) (by rw [pre.size]; simp) (pre.val 1 166 (by kernel_rfl) (by kernel_rfl))) (by go_simp) ((HWS.out W (BCD.out.trans ((HW.out W pre.b).2.2.2.mono BCD.out.size))).mono fun e W' h => ?_)
              obtain ⟨v, rfl, h1, h2⟩ := h
              exact ⟨v, rfl, h1.low (HW.out W pre.b).2.2.1.size, h2⟩
          case fin =>
            intro a W hbW hsz2 hd hv ho
            obtain ⟨_, _, hbw, _⟩ := HW.out W hbW
            obtain ⟨T, D⟩ := a
            obtain rfl : D = _ := hd
            have hs8 : T.size = 175 := by rw [hsz2]; rfl
            have q1 : T.getD 166 undef = .bool true := hv 1 166 (by decide) (by kernel_rfl)
            obtain ⟨xs, x1, x2, x3⟩ : RdsAt w.heap.size L1 (T.getD 168 undef) W := hv 3 168 (by decide) (by kernel_rfl)
            obtain ⟨ys, y1, y2, y3⟩ : RdsAt w.heap.size L2 (T.getD 170 undef) W := hv 5 170 (by decide) (by kernel_rfl)
            obtain ⟨A2, c2, q2, z1, z2, z3⟩ := own_sl y1
            obtain ⟨v1, q3⟩ : ∃ v, T.getD 168 undef = v := ⟨_, rfl⟩
            rw [q3] at x1
            obtain ⟨v3, w13, hrun, ho3, hg3, _⟩ := run_append_sl (P := Tryd.prog) W w.heap.size 33 33 59 i0 _ 1 24 Tryd.underlying33 hii hz0 hz1 hz2 rfl (by omega) v1 L1.length xs x1 A2 L2.length c2 ys z3 (rds_ones y3) (by unfold maxLen; omega) (by omega) hbw.size
            have V3 := rds_append x1 x2 x3 y2 y3 ho3 hg3
            have B13 := Lib.hid (hbw.grown hg3 hbw.size (fun k hk => (own_cells x1 hk).1))
            obtain ⟨zs, g1, g2, g3⟩ := V3
            obtain ⟨A3, c3, rfl, r1, r2, r3⟩ := own_sl g1
            have hcc := clash_any A3 (L1 ++ L2) zs c3 w13 (by rw [List.length_append]; omega) HLO.out r3 g3 HCL.out
            rw [List.length_append] at hcc
            have HCLc := Lib.hid hcc
            have HRUN := Lib.hid hrun
            obtain ⟨f, hf⟩ : ∃ f : Nat → Value, ∀ i, T.getD i undef = f i := ⟨_, fun _ => rfl⟩
            have hT := lit_of hs8 f hf
            rw [hf] at q1 q2 q3
            simp only [List.range, List.range.loop, List.map_cons, List.map_nil, q1, q2, q3] at hT
            clear hf q1 q2 q3 hs8 hsz2 hv ho hbW hbw x1 x2 x3 y1 y2 y3 z1 z2 z3 hrun hcc ho3 hg3 g1 g2 g3 r1 r2 r3 HW HTX HWS
            subst hT
            simp only [List.filterMap_cons, List.filterMap_nil, List.getElem?_toArray, List.getElem?_cons_succ, List.getElem?_cons_zero]
            show wpList _ _ _ (_ :: _ :: _ :: _ :: []) _ _
            go_wp2_with (refine wpList_new (by rfl) (exec_app _ _ 33 (by with_reducible rfl) (by rfl) (by rfl) (by exact HRUN.out)) ?_)
            with_reducible refine HCLc.out.mono ?_
            rintro e w14 ⟨rfl, hb14⟩
            go_wp2_with fail
            go_ret
            exact ⟨rfl, B13.out.trans (hb14.mono B13.out.size)⟩
theorem bent_walk (A : Option Addr) (l : List Ent) (c : Nat) (hlc : l.length ≤ c) (hcm : c ≤ maxLen) {w : World} (hA : Sl w w.heap.size 2 A l.length (eCells l)) (key : ByteArray) (q : PartV) (hq : q.good w) (_ : World) (hr : Roots w ∧ 0 < w.heap.size) :
    Calls Tryd.prog 8 #[.slice A l.length c, .string key, .agg q.cells.toArray] w fun e w' => e = .returned (.bool true) ∧ Below w.heap.size w w' := bent_any A l l.length rfl c key q w hq hr.1 hr.2 hlc hcm hA
end Go.Proofs.YtdeikpifflkabaaDoor

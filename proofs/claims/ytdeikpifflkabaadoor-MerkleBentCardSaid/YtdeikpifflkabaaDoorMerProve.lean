/- What this text proves: the contract of slices.BinarySearchFunc at entries. The conditions: that the list is by rising keys, and how it lies in memory. the contract of the function that merkle.Prove makes to add a part. The conditions: how the lists and the proof lie in memory; no more entries, and no longer texts, than are asked about; that the package's table is as its text lays it. the contract of merkle.Prove. The conditions: no more entries, and no longer texts, than are asked about; how they lie in memory; that the package's table is as its text lays it. what a key has, as a plain function; that what is proved is accepted of the entries' root and says what they have; the contract of the reference's Find. The conditions: no more entries, and no longer texts, than are asked about; how they lie in memory. -/
import Derived.Test.YtdeikpifflkabaaDoorMerCheckR
import Derived.WalkKit
import Derived.Test.YtdeikpifflkabaaDoorMerWayB
namespace Go.Proofs.YtdeikpifflkabaaDoor
open Go.RowKit
set_option linter.unusedVariables false
set_option linter.unusedSimpArgs false

/-- By rising keys. -/
def RiseK (l : List Ent) : Prop := ∀ (i j : Nat) (u v : Ent), i < j → l[i]? = some u → l[j]? = some v → ltK u.1 v.1 = true
theorem riseK_of : ∀ {l : List Ent}, ascK l = true → RiseK l
  | [], _ => fun i j u v _ h _ => (by simp at h)
  | [a], _ => fun i j u v hij _ hv => by
    have := (List.getElem?_eq_some_iff.1 hv).1
    simp at this
    omega
  | a :: b :: l, h => by
    rw [ascK, Bool.and_eq_true] at h
    have ih := riseK_of h.2
    intro i j u v hij hu hv
    obtain ⟨j', rfl⟩ : ∃ j', j = j' + 1 := ⟨j - 1, by omega⟩
    rw [List.getElem?_cons_succ] at hv
    cases i with
    | zero =>
      have ha : a = u := by simpa using hu
      subst ha
      cases j' with
      | zero =>
        have hb : b = v := by simpa using hv
        subst hb
        exact h.1
      | succ j' => exact ltK_trans h.1 (ih 0 (j' + 1) b v (by omega) (by simp) hv)
    | succ i => exact ih i j' u v (by omega) (by simpa using hu) hv
/-- The place of a key. -/
structure LowK (l : List Ent) (key : ByteArray) (i : Nat) : Prop where
  le : i ≤ l.length
  lo : ∀ (j : Nat) (v : Ent), j < i → l[j]? = some v → ltK v.1 key = true
  hi : ∀ (j : Nat) (v : Ent), i ≤ j → l[j]? = some v → ltK v.1 key = false
def foundK (l : List Ent) (key : ByteArray) (i : Nat) : Bool := match l[i]? with
  | some v => decide (v.1 = key)
  | none => false

set_option maxHeartbeats 1000000 in
theorem byKey_any (k p key : ByteArray) (w : World) :
    Calls Tryd.prog 39 #[.agg #[.string k, .string p], .string key] w fun e w' => e = .returned (.int .i64 (cmpS k key)) ∧ Below w.heap.size w w' := by
  have L1 : Hid (Below w.heap.size w (w.alloc (.cells #[.string k, .string p] 31))) := Lib.hid (by (first | assumption | (repeat (first | exact Below.refl _ _ | assumption | apply Below.drew | apply below_drewN | (refine Below.setCell ?_ (by (try simp) <;> omega) _) | (refine Below.alloc ?_ (by (try simp) <;> omega) _)))))
  go_enter Tryd.func39, Tryd.ntmps39
  go_wp2_with fail
  obtain ⟨w1, hw1⟩ : ∃ W, w.alloc (.cells #[.string k, .string p] 31) = W := ⟨_, rfl⟩
  rw [hw1] at L1 ⊢
  with_reducible refine (compare_any k key w1).mono ?_
  rintro e w2 ⟨rfl, hw⟩
  rw [hw]
  go_wp2_with fail
  go_ret
  exact ⟨rfl, L1.out⟩

theorem ltK_down {a b key : ByteArray} (h : ltK a b = true) (h' : ltK b key = true) : ltK a key = true := ltK_trans h h'
theorem ltK_up {a b key : ByteArray} (h : ltK a b = true) (h' : ltK a key = false) : ltK b key = false := by
  cases hb : ltK b key with
  | false => rfl
  | true => rw [ltK_trans h hb] at h'; cases h'

set_option maxRecDepth 100000 in
set_option maxHeartbeats 2000000 in
theorem search_any (A : Option Addr) (l : List Ent) (n c : Nat) (hn : l.length = n) (key : ByteArray) (w : World) (hl : n ≤ 1000000) (hs : RiseK l) (hA : Sl w w.heap.size 2 A l.length (eCells l)) :
    Calls Tryd.prog 38 #[.slice A n c, .string key, .func (.func 39) #[] #[]] w fun e w' => ∃ i, LowK l key i ∧ e = .returned (.tuple #[.int .i64 (i : Nat), .bool (foundK l key i)]) ∧ Below w.heap.size w w' := by
  subst hn
  have HA := Lib.hid hA
  have HS := Lib.hid hs
  have HL := Lib.hid hl
  clear hA hs hl
  go_enter Tryd.func38, Tryd.ntmps38
  go_wp2_with fail
  go_loopw [9, 10] (fun i j wr => ∃ (a b : Nat), a ≤ b ∧ b ≤ l.length ∧ i = .int .i64 a ∧ j = .int .i64 b ∧ (∀ (t : Nat) (v : Ent), t < a → l[t]? = some v → ltK v.1 key = true) ∧ (∀ (t : Nat) (v : Ent), b ≤ t → l[t]? = some v → ltK v.1 key = false) ∧ Below w.heap.size w wr) (fun i j _ => (intOf j - intOf i).toNat)
  case atStart => exact ⟨0, l.length, by omega, by omega, rfl, rfl, fun t v ht => by omega, fun t v ht hv => (by rw [List.getElem?_eq_none ht] at hv; cases hv), Below.refl _ _⟩
  case round =>
    obtain ⟨a, b, hab, hbl, rfl, rfl, hlo, hhi, hbel⟩ := hrel
    have LO := Lib.hid hlo
    have HI := Lib.hid hhi
    have L := Lib.hid hbel
    have hl := HL.out
    clear hlo hhi hbel
    by_cases hlt : a < b
    · have hlt' : (a : Int) < (b : Int) := by omega
      obtain ⟨h, hh⟩ : ∃ h, (a + b) / 2 = h := ⟨_, rfl⟩
      have h1 : a ≤ h := by omega
      have h2 : h < b := by omega
      obtain ⟨bb, off, ke, pe, rfl, hb, hck, hcp, hlk⟩ := (HA.out.below L.out).ent (k := h) (by omega)
      have hab' : ((a : Int) + (b : Int)) / 2 = (h : Int) := by omega
      have hsum : (a : Int) + (b : Int) < 4000000 := by omega
      have hhl : (h : Int) < (l.length : Int) := by omega
      have LK := Lib.hid hlk
      clear hlk hh
      go_wp2_with fail
      have HC := Lib.hid (byKey_any ke pe key wr)
      cases hk : ltK ke key with
      | true =>
        have hx : cmpS ke key = -1 := by unfold cmpS; rw [hk]; rfl
        rw [hx] at HC
        have HK := Lib.hid hk
        clear hk hx
        with_reducible refine HC.out.mono ?_
        rintro e w2 ⟨rfl, hb2⟩
        have L2 : Hid (Below w.heap.size w w2) := Lib.hid (L.out.trans (hb2.mono L.out.size))
        clear hb2 HC
        go_wp2_with fail
        go_roundw
        case rel =>
          refine ⟨h + 1, b, by omega, by omega, by go_num, rfl, fun t v ht hv => ?_, HI.out, L2.out⟩
          by_cases e : t = h
          · subst e
            have := LK.out.symm.trans hv
            cases this
            exact HK.out
          · exact ltK_down (HS.out t h v (ke, pe) (by omega) hv LK.out) HK.out
        case measure => simp [intOf]; omega
      | false =>
        obtain ⟨x, hx⟩ : ∃ x, cmpS ke key = x := ⟨_, rfl⟩
        have hx0 : decide (x < 0) = false := by rw [← hx, cmpS_neg, hk]
        rw [hx] at HC
        have HK := Lib.hid hk
        clear hk hx
        with_reducible refine HC.out.mono ?_
        rintro e w2 ⟨rfl, hb2⟩
        have L2 : Hid (Below w.heap.size w w2) := Lib.hid (L.out.trans (hb2.mono L.out.size))
        clear hb2 HC
        go_wp2_with fail
        go_roundw
        case rel =>
          refine ⟨a, h, by omega, by omega, rfl, rfl, LO.out, fun t v ht hv => ?_, L2.out⟩
          by_cases e : t = h
          · subst e
            have := LK.out.symm.trans hv
            cases this
            exact HK.out
          · exact ltK_up (HS.out h t (ke, pe) v (by omega) LK.out hv) HK.out
        case measure => simp [intOf]; omega
    · obtain rfl : a = b := by omega
      have HAT : Hid (LowK l key a) := Lib.hid ⟨hbl, LO.out, HI.out⟩
      by_cases hal : a < l.length
      · have hal' : (a : Int) < (l.length : Int) := by omega
        obtain ⟨bb, off, ke, pe, rfl, hb, hck, hcp, hlk⟩ := (HA.out.below L.out).ent hal
        have HF : Hid (foundK l key a = decide (ke = key)) := Lib.hid (by unfold foundK; rw [hlk])
        have HC := Lib.hid (byKey_any ke pe key wr)
        obtain ⟨x, hx⟩ : ∃ x, cmpS ke key = x := ⟨_, rfl⟩
        have hx0 : Hid ((x == 0) = decide (ke = key)) := Lib.hid (by rw [← hx]; exact cmpS_zero _ _)
        rw [hx] at HC
        clear hx hlk hb
        go_wp2_with fail
        with_reducible refine HC.out.mono ?_
        rintro e w2 ⟨rfl, hb2⟩
        have L2 : Hid (Below w.heap.size w w2) := Lib.hid (L.out.trans (hb2.mono L.out.size))
        clear hb2 HC
        go_wp2_with fail
        go_ret2
        exact ⟨a, HAT.out, ret_two rfl (by rw [HF.out, ← hx0.out]; rfl), L2.out⟩
      · obtain rfl : a = l.length := by omega
        have HF : Hid (foundK l key l.length = false) := Lib.hid (by unfold foundK; rw [List.getElem?_eq_none (Nat.le_refl _)])
        go_wp2_with fail
        go_ret2
        exact ⟨l.length, HAT.out, ret_two rfl (by rw [HF.out]; rfl), L.out⟩
end Go.Proofs.YtdeikpifflkabaaDoor

namespace Go.Proofs.YtdeikpifflkabaaDoor
open Go.RowKit Go.Shelf
set_option linter.unusedVariables false
set_option linter.unusedSimpArgs false

theorem part_info : (Tryd.prog.info? 41).map (fun i => (i.zero, i.size, i.bytes)) = some (some (.agg #[.int .i64 0, .string ⟨#[]⟩, .string ⟨#[]⟩, .slice none 0 0]), 4, 64) := by kernel_rfl
theorem pCells_snoc (l : List PartV) (p : PartV) : pCells (l ++ [p]) = pCells l ++ p.cells := by simp [pCells]
theorem Moves.own_grown {w w' : World} {base : Nat} {e : TypeId} {size n : Nat} {v : Value} {xs : List Value} (ho : w.ownsRow base e size v n xs) (hg : w.grownBy w' v.ownBlock) : Moves (fun k o => base ≤ k ∧ ∃ cs, o = .cells cs e (0, 0)) w w' :=
  ⟨hg.os, hg.tape, hg.output, hg.size, fun k o hk hn => (hg.block k (Array.getElem?_eq_some_iff.1 hk).1 (fun e' => by
    obtain ⟨h1, _, cs, h3⟩ := own_cells ho e'.symm
    rw [h3] at hk
    cases hk
    exact hn ⟨h1, cs, rfl⟩)).trans hk⟩
theorem Moves.comp {X : Nat → Obj → Prop} {W W' W'' : World} (h : Moves X W W') (h' : Moves X W' W'') : Moves X W W'' :=
  ⟨h'.os.trans h.os, h'.tape.trans h.tape, h'.output.trans h.output, Nat.le_trans h.size h'.size, fun k o hk hn => h'.block k o (h.block k o hk hn) hn⟩
/-- What adding a part moves. -/
def AX (gp N0 : Nat) (k : Nat) (o : Obj) : Prop := k = gp ∨ (N0 ≤ k ∧ ∃ cs, o = .cells cs 41 (0, 0))
/-- A way in memory: a part's, a row of such. -/
def PathAt (N0 : Nat) (path : List (List UInt8)) (A : Option Addr) (c : Nat) (W : World) : Prop := W.ownsRow N0 26 32 (.slice A path.length c) path.length (hCells path)
theorem PathAt.moves {gp N0 : Nat} {path : List (List UInt8)} {A : Option Addr} {c : Nat} {W W' : World} (h : PathAt N0 path A c W) (hm : Moves (AX gp N0) W W') (hg : gp < N0) : PathAt N0 path A c W' := hm.own h (by
  rintro g cs hb (h1 | ⟨_, cs', h2⟩)
  · omega
  · injection h2 with _ h3
    exact absurd h3 (by decide))
def PathV (N0 : Nat) (path : List (List UInt8)) (v : Value) (W : World) : Prop := ∃ A c, v = .slice A path.length c ∧ PathAt N0 path A c W
theorem stays_pathv (N0 : Nat) (path : List (List UInt8)) : Remains (PathV N0 path) := fun _ _ _ ⟨A, c, h1, h2⟩ hb => ⟨A, c, h1, own_below (show World.ownsRow _ _ _ _ _ _ _ from h2) hb⟩
def AggP (N0 : Nat) (i : Nat) (e : Ent) (path : List (List UInt8)) (v : Value) (W : World) : Prop := ∃ A c, v = .agg #[.int .i64 (i : Int), .string e.1, .string e.2, .slice A path.length c] ∧ PathAt N0 path A c W
theorem stays_aggp (N0 i : Nat) (e : Ent) (path : List (List UInt8)) : Remains (AggP N0 i e path) := fun _ _ _ ⟨A, c, h1, h2⟩ hb => ⟨A, c, h1, own_below (show World.ownsRow _ _ _ _ _ _ _ from h2) hb⟩
def OneP (N0 : Nat) (i : Nat) (e : Ent) (path : List (List UInt8)) (v : Value) (W : World) : Prop := ∃ g A c, v = .slice (some ⟨g, 0, none⟩) 1 1 ∧ N0 ≤ g ∧ Bk W g 41 #[.int .i64 (i : Int), .string e.1, .string e.2, .slice A path.length c] ∧ PathAt N0 path A c W
theorem stays_onep (N0 i : Nat) (e : Ent) (path : List (List UInt8)) : Remains (OneP N0 i e path) := fun _ _ _ ⟨g, A, c, h1, h2, h3, h4⟩ hb => ⟨g, A, c, h1, h2, h3.below hb h3.lt, own_below (show World.ownsRow _ _ _ _ _ _ _ from h4) hb⟩

theorem add_out (gl gp gh : Nat) (A : Option Addr) (n c : Nat) (i : Int) (hi : ¬ (0 ≤ i ∧ i < (n : Int))) (w : World) (hgl : Bk w gl 22 #[.slice A n c]) :
    Calls Tryd.prog 36 #[.int .i64 i, .pointer (some ⟨gl, 0, none⟩), .pointer (some ⟨gp, 0, none⟩), .pointer (some ⟨gh, 0, none⟩)] w fun en w' => en = .returned (.tuple #[]) ∧ w' = w := by
  have c0 := hgl.cell 0
  by_cases h0 : 0 ≤ i
  · have e1 : decide (0 ≤ i) = true := decide_eq_true h0
    have e2 : decide (i < (n : Int)) = false := decide_eq_false (by omega)
    clear hgl
    go_enter Tryd.func36, Tryd.ntmps36
    go_wp2_with fail
    go_end0
    exact ⟨rfl, rfl⟩
  · have e1 : decide (0 ≤ i) = false := decide_eq_false h0
    clear hgl
    go_enter Tryd.func36, Tryd.ntmps36
    go_wp2_with fail
    go_end0
    exact ⟨rfl, rfl⟩

attribute [local irreducible] digF
set_option maxRecDepth 100000 in
set_option maxHeartbeats 8000000 in
theorem add_in (gl gp gh N0 : Nat) (l : List Ent) (n : Nat) (hn : l.length = n) (h70 : n ≤ 70) (A A3 : Option Addr) (c c3 i : Nat) (hi : i < n) (e : Ent) (he : l[i]? = some e) (ps : List PartV) (hps : ps.length ≤ 10) (v : Value) (w : World) (hc3 : n ≤ c3) (hcm3 : c3 ≤ maxLen)
    (hlp : gl ≠ gp) (hph : gp ≠ gh) (h1 : gl < N0) (h2 : gp < N0) (h3 : gh < N0) (hN0 : N0 ≤ w.heap.size) (hgl : Bk w gl 22 #[.slice A n c]) (hgp : Bk w gp 38 #[.int .i64 (n : Int), v]) (hgh : Bk w gh 39 #[.slice A3 n c3])
    (hS : Sl w w.heap.size 2 A l.length (eCells l)) (hH : Sl w w.heap.size 32 A3 n (hCells (l.map leafF))) (hrow : w.ownsRow N0 41 4 v ps.length (pCells ps)) (hr : Roots w) (h0 : 0 < w.heap.size) :
    Calls Tryd.prog 36 #[.int .i64 (i : Int), .pointer (some ⟨gl, 0, none⟩), .pointer (some ⟨gp, 0, none⟩), .pointer (some ⟨gh, 0, none⟩)] w fun en w' => en = .returned (.tuple #[]) ∧ ∃ A' c' v', Bk w' gp 38 #[.int .i64 (n : Int), v'] ∧
      w'.ownsRow N0 41 4 v' (ps.length + 1) (pCells (ps ++ [⟨i, e, A', wayE l i, c'⟩])) ∧ PathAt N0 (wayE l i) A' c' w' ∧ Moves (AX gp N0) w w' := by
  obtain ⟨b, off, ke, va, rfl, hb, hck, hcv, hla⟩ := hS.ent (k := i) (by omega)
  rw [he] at hla
  obtain ⟨ek, ev⟩ := e
  injection hla with hla
  injection hla with hk hv
  subst hk
  subst hv
  obtain ⟨path, hpath⟩ : ∃ p, wayE l i = p := ⟨_, rfl⟩
  have hw := wayE_is n l i hn
  rw [hpath] at hw ⊢
  have HWAY := Lib.hid (show ∀ W, Below w.heap.size w W → Calls Tryd.prog 37 #[.slice A3 n c3, .int .i64 (i : Int)] W fun e w' => ∃ v, e = .returned v ∧ PathV N0 path v w' ∧ Below W.heap.size W w' from fun W hbW => by
    refine (way_any (l.map leafF) n i (by rw [List.length_map, hn]) A3 c3 W hi h70 hc3 hcm3 (leaves_32 l) (hr.below hbW h0) (Nat.lt_of_lt_of_le h0 hbW.size) ((hH.below hbW).more hbW.size)).mono ?_
    rintro e w' ⟨A', c', rfl, ho, hb⟩
    rw [← hw] at ho ⊢
    exact ⟨_, rfl, ⟨A', c', rfl, ho.mono (Nat.le_trans hN0 hbW.size)⟩, hb⟩)
  obtain ⟨i0, hii, hz0, hz1, hz2⟩ := info_parts part_info
  have LL := Lib.hid hgl
  have PP := Lib.hid hgp
  have HH := Lib.hid hgh
  have ROW := Lib.hid hrow
  have c0 := hgl.cell 0
  have e1 : decide ((0 : Int) ≤ (i : Int)) = true := decide_eq_true (by omega)
  have e2 : decide ((i : Int) < (n : Int)) = true := decide_eq_true (by omega)
  have CK := Lib.hid hck
  have CV := Lib.hid hcv
  clear hgl hgp hgh hrow hS hH hw hck hcv hr
  go_enter Tryd.func36, Tryd.ntmps36
  go_wp2_with fail
  have HW : Hid (∀ W, Below w.drew.heap.size w.drew W → W.cell? ⟨gl, 0, none⟩ = some (.slice (some ⟨b, off, none⟩) n c) ∧ W.cell? ⟨gp, 1, none⟩ = some v ∧ W.cell? ⟨gh, 0, none⟩ = some (.slice A3 n c3) ∧ W.cell? ⟨b, off + i * 2, none⟩ = some (.string ek) ∧ W.cell? ⟨b, off + i * 2 + 1, none⟩ = some (.string ev) ∧ Below w.heap.size w W ∧ N0 ≤ W.heap.size) := Lib.hid (fun W hW =>
    have hd : Below w.heap.size w w.drew := (Below.refl _ _).drew
    have h1 : Below w.heap.size w W := hd.trans (hW.mono hd.size)
    ⟨(LL.out.below h1 LL.out.lt).cell 0, (PP.out.below h1 PP.out.lt).cell 1, (HH.out.below h1 HH.out.lt).cell 0, (h1.cell (p := ⟨b, off + i * 2, none⟩) hb).trans CK.out, (h1.cell (p := ⟨b, off + i * 2 + 1, none⟩) hb).trans CV.out, h1, Nat.le_trans hN0 h1.size⟩)
  refine wp_region_part [0, 1, 2, 3, 4, 5, 6, 7, 8, 9, 10, 11] [] [12, 13, 14] (lstV [fun x _ => x = .pointer (some ⟨gp, 1, none⟩), fun x _ => x = v, fun x _ => x = .int .i64 (i : Int), fun x _ => x = .slice (some ⟨b, off, none⟩) n c, fun x _ => x = .int .i64 (i : Int), fun x _ => x = .pointer (some ⟨b, off + i * 2, none⟩), fun x _ => x = .agg #[.string ek, .string ev], fun x _ => x = .slice A3 n c3, fun x _ => x = .int .i64 (i : Int), PathV N0 path, AggP N0 i (ek, ev) path, OneP N0 i (ek, ev) path]) (by kernel_rfl) (by kernel_rfl) (lstV_on (by repeat' (first | exact forall_nil | refine forall_cons ?_ ?_ | exact stays_pathv _ _ | exact stays_aggp _ _ _ _ | exact stays_onep _ _ _ _ | exact stays_eq _))) ?turns ?hq trivial ?fin
  case hq => intro c_ a_ d_ v_ w_ h_; cases d_ <;> exact h_
  case turns =>
    refine ⟨fun o ho a W pre => ?_, fun o ho a W pre => ?_, fun o ho a W pre => ?_, fun o ho a W pre => ?_, fun o ho a W pre => ?_, fun o ho a W pre => ?_, fun o ho a W pre => ?_, fun o ho a W pre => ?_, fun o ho a W pre => ?_, fun o ho a W pre => ?_, fun o ho a W pre => ?_, fun o ho a W pre => ?_, trivial⟩
    all_goals (obtain rfl := (Option.some.inj ho).symm; clear ho)
    · (refine .inl ?_; have q0 : a.eval (.tmp 2) = .pointer (some ⟨gp, 0, none⟩) := pre.was 2 (by kernel_rfl) rfl; rw [Act.eval, Array.getD_eq_getD_getElem?] at q0; exact does_val (want_none rfl) (by go_simp) rfl)
    · have c1 := (HW.out W pre.b).2.1
      (refine .inl ?_; have q0 : a.eval (.tmp 13) = .pointer (some ⟨gp, 1, none⟩) := pre.val 0 13 (by kernel_rfl) (by kernel_rfl); rw [Act.eval, Array.getD_eq_getD_getElem?] at q0; exact does_val (want_none rfl) (by go_simp) rfl)
    · (refine .inl ?_; have q0 : a.eval (.tmp 0) = .int .i64 (i : Int) := pre.was 0 (by kernel_rfl) rfl; rw [Act.eval, Array.getD_eq_getD_getElem?] at q0; exact does_val (want_none rfl) (by go_simp) rfl)
    · have c1 := (HW.out W pre.b).1
      (refine .inl ?_; have q0 : a.eval (.tmp 1) = .pointer (some ⟨gl, 0, none⟩) := pre.was 1 (by kernel_rfl) rfl; rw [Act.eval, Array.getD_eq_getD_getElem?] at q0; exact does_val (want_none rfl) (by go_simp) rfl)
    · (refine .inl ?_; have q0 : a.eval (.tmp 0) = .int .i64 (i : Int) := pre.was 0 (by kernel_rfl) rfl; rw [Act.eval, Array.getD_eq_getD_getElem?] at q0; exact does_val (want_none rfl) (by go_simp) rfl)
    · refine .inl ?_
      have q0 : a.eval (.tmp 16) = .slice (some ⟨b, off, none⟩) n c := pre.val 3 16 (by kernel_rfl) (by kernel_rfl)
      have q1 : a.eval (.tmp 17) = .int .i64 (i : Int) := pre.val 4 17 (by kernel_rfl) (by kernel_rfl)
      rw [Act.eval, Array.getD_eq_getD_getElem?] at q0 q1
      have e3 : (i : Int) < (n : Int) := by omega
      exact does_val (want_none rfl) (by go_simp) rfl
    · have c1 := (HW.out W pre.b).2.2.2.1
      have c2 := (HW.out W pre.b).2.2.2.2.1
      (refine .inl ?_; have q0 : a.eval (.tmp 18) = .pointer (some ⟨b, off + i * 2, none⟩) := pre.val 5 18 (by kernel_rfl) (by kernel_rfl); rw [Act.eval, Array.getD_eq_getD_getElem?] at q0; exact does_val (want_none rfl) (by go_simp) rfl)
    · have c1 := (HW.out W pre.b).2.2.1
      (refine .inl ?_; have q0 : a.eval (.tmp 3) = .pointer (some ⟨gh, 0, none⟩) := pre.was 3 (by kernel_rfl) rfl; rw [Act.eval, Array.getD_eq_getD_getElem?] at q0; exact does_val (want_none rfl) (by go_simp) rfl)
    · (refine .inl ?_; have q0 : a.eval (.tmp 0) = .int .i64 (i : Int) := pre.was 0 (by kernel_rfl) rfl; rw [Act.eval, Array.getD_eq_getD_getElem?] at q0; exact does_val (want_none rfl) (by go_simp) rfl)
    · refine .inl ?_
      have q0 : a.eval (.tmp 20) = .slice A3 n c3 := pre.val 7 20 (by kernel_rfl) (by kernel_rfl)
      have q1 : a.eval (.tmp 21) = .int .i64 (i : Int) := pre.val 8 21 (by kernel_rfl) (by kernel_rfl)
      rw [Act.eval, Array.getD_eq_getD_getElem?] at q0 q1
      exact does_callx (want_none rfl) (by go_simp) (HWAY.out W (HW.out W pre.b).2.2.2.2.2.1)
    · refine .inl ?_
      have q0 : a.eval (.tmp 15) = .int .i64 (i : Int) := pre.val 2 15 (by kernel_rfl) (by kernel_rfl)
      have q1 : a.eval (.tmp 19) = .agg #[.string ek, .string ev] := pre.val 6 19 (by kernel_rfl) (by kernel_rfl)
      obtain ⟨A', c', q2, q3⟩ : PathV N0 path (a.eval (.tmp 22)) W := pre.val 9 22 (by kernel_rfl) (by kernel_rfl)
      rw [Act.eval, Array.getD_eq_getD_getElem?] at q0 q1 q2
      exact does_val (want_none rfl) (by go_simp) ⟨A', c', rfl, q3⟩
    · refine .inl ?_
      obtain ⟨A', c', q0, q3⟩ : AggP N0 i (ek, ev) path (a.eval (.tmp 23)) W := pre.val 10 23 (by kernel_rfl) (by kernel_rfl)
      have hb_ : Below W.heap.size W (W.alloc (.cells #[.int .i64 (i : Int), .string ek, .string ev, .slice A' path.length c'] 41)) := (by (first | assumption | (repeat (first | exact Below.refl _ _ | assumption | apply Below.drew | apply below_drewN | (refine Below.setCell ?_ (by (try simp) <;> omega) _) | (refine Below.alloc ?_ (by (try simp) <;> omega) _)))))
      simp only at q0
      rw [Act.eval, Array.getD_eq_getD_getElem?] at q0
      exact does_new (want_none rfl) (by go_simp) hb_ ⟨W.heap.size, A', c', rfl, (HW.out W pre.b).2.2.2.2.2.2, Bk.new W _ _, own_below (show World.ownsRow _ _ _ _ _ _ _ from q3) hb_⟩
  case fin =>
    intro a W hbW hsz2 hd hv ho
    obtain ⟨-, -, -, -, -, hbw, hzw⟩ := HW.out W hbW
    have BW := Lib.hid hbw
    have ZW := Lib.hid hzw
    have ROWW := Lib.hid (own_below ROW.out hbw)
    have PPW := Lib.hid (PP.out.below hbw PP.out.lt)
    obtain ⟨T, D⟩ := a
    obtain rfl : D = _ := hd
    have hs8 : T.size = 27 := by rw [hsz2]; rfl
    have q1 : T.getD 14 undef = v := hv 1 14 (by decide) (by kernel_rfl)
    obtain ⟨gq, A', c', q2, q2n, q2k, q2p⟩ : OneP N0 i (ek, ev) path (T.getD 24 undef) W := hv 11 24 (by decide) (by kernel_rfl)
    have q3 : T.getD 2 undef = .pointer (some ⟨gp, 0, none⟩) := ho 2 (no_dst (by kernel_rfl))
    have SL : Hid (Sl W W.heap.size 4 (some ⟨gq, 0, none⟩) 1 [.int .i64 (i : Int), .string ek, .string ev, .slice A' path.length c']) := Lib.hid ⟨by simp, fun _ => ⟨gq, 0, rfl, q2k.lt, fun j u hu => by rw [Nat.zero_add, q2k.cell]; simpa using hu⟩⟩
    have QP := Lib.hid q2p
    obtain ⟨f, hf⟩ : ∃ f : Nat → Value, ∀ i, T.getD i undef = f i := ⟨_, fun _ => rfl⟩
    have hT := lit_of hs8 f hf
    rw [hf] at q1 q2 q3
    simp only [List.range, List.range.loop, List.map_cons, List.map_nil, q1, q2, q3] at hT
    clear hf q1 q2 q3 hs8 hsz2 hv ho hbW hbw hzw q2k q2n q2p HW HWAY
    subst hT
    simp only [List.filterMap_cons, List.filterMap_nil, List.getElem?_toArray, List.getElem?_cons_succ, List.getElem?_cons_zero]
    show wpList _ _ _ (_ :: _ :: _ :: []) _ _
    refine wpList_append_sl _ (by rfl) _ _ 36 (by rfl) N0 41 i0 _ 4 64 Tryd.underlying36 hii hz0 hz1 hz2 rfl (by omega) v ps.length (pCells ps) (by rfl) ROWW.out (some ⟨gq, 0, none⟩) 1 1 [.int .i64 (i : Int), .string ek, .string ev, .slice A' path.length c'] (by rfl) SL.out (by simp [Value.oneCell']) (by unfold maxLen; omega) (by omega) ZW.out ?_
    intro v5 w5_ ho_ hg_ hv_
    obtain ⟨g5, cap5, rfl⟩ := ownsRow_succ ho_
    have M5 := Lib.hid (Moves.own_grown ROWW.out hg_)
    have pk := PPW.out.grown hg_ (own_ne ROWW.out PPW.out (by decide))
    have PK := Lib.hid pk
    have O5 := Lib.hid ho_
    have f1 := pk.frozen 1
    have c1 := pk.cell 1
    clear ho_ hg_ hv_ SL pk
    go_wp2_with fail
    go_end0
    have hm2 : Moves (AX gp N0) W (w5_.setCell ⟨gp, 1, none⟩ (.slice (some ⟨g5, 0, none⟩) (ps.length + 1) cap5)) := (M5.out.more (fun k o h => .inr h)).comp (Moves.setCell _ _ _ (fun o _ => .inl rfl))
    have hm : Moves (AX gp N0) w (w5_.setCell ⟨gp, 1, none⟩ (.slice (some ⟨g5, 0, none⟩) (ps.length + 1) cap5)) := (Moves.below _ BW.out (Nat.le_refl _)).comp hm2
    refine ⟨rfl, A', c', _, PK.out.set_ 1 _, ?_, QP.out.moves hm2 h2, hm⟩
    rw [pCells_snoc]
    exact own_far O5.out (p := ⟨gp, 1, none⟩) (own_ne O5.out PK.out (by decide)) _
end Go.Proofs.YtdeikpifflkabaaDoor

namespace Go.Proofs.YtdeikpifflkabaaDoor
open Go.RowKit Go.Shelf
set_option linter.unusedVariables false
set_option linter.unusedSimpArgs false

/-- A part of a list's j-th entry. -/
structure IsPart (l : List Ent) (p : PartV) (j : Nat) : Prop where
  idx : p.idx = (j : Int)
  e : l[j]? = some p.e
  path : p.path = wayE l j
def PartsOf (l : List Ent) : List PartV → List Nat → Prop
  | [], [] => True
  | p :: ps, j :: js => IsPart l p j ∧ PartsOf l ps js
  | _, _ => False
/-- Which entries are proved. -/
def idxs (n i : Nat) (found : Bool) : List Nat := (if found then [] else if 1 ≤ i then [i - 1] else []) ++ (if i < n then [i] else [])
theorem PartsOf.snoc {l : List Ent} : ∀ {ps : List PartV} {js : List Nat} {p : PartV} {j : Nat}, PartsOf l ps js → IsPart l p j → PartsOf l (ps ++ [p]) (js ++ [j])
  | [], [], _, _, _, h => ⟨h, trivial⟩
  | _ :: _, _ :: _, _, _, h, h' => ⟨h.1, PartsOf.snoc h.2 h'⟩
  | [], _ :: _, _, _, h, _ => h.elim
  | _ :: _, [], _, _, h, _ => h.elim
/-- The parts in memory: a row of them, and their ways. -/
structure PartsIn (N0 : Nat) (ps : List PartV) (v : Value) (W : World) : Prop where
  row : W.ownsRow N0 41 4 v ps.length (pCells ps)
  paths : ∀ p ∈ ps, PathAt N0 p.path p.A p.c W
theorem PartsIn.below {N0 : Nat} {ps : List PartV} {v : Value} {W W' : World} (h : PartsIn N0 ps v W) (hb : Below W.heap.size W W') : PartsIn N0 ps v W' := ⟨own_below h.row hb, fun p hp => own_below (show World.ownsRow _ _ _ _ _ _ _ from h.paths p hp) hb⟩
theorem PartsIn.less {N0 N1 : Nat} {ps : List PartV} {v : Value} {W : World} (h : PartsIn N0 ps v W) (hn : N1 ≤ N0) : PartsIn N1 ps v W := ⟨h.row.mono hn, fun p hp => (show World.ownsRow _ _ _ _ _ _ _ from h.paths p hp).mono hn⟩
theorem PartsIn.nil (N0 : Nat) (W : World) : PartsIn N0 [] (.slice none 0 0) W := ⟨World.ownsRow_nil _ _ _ _, fun p hp => by cases hp⟩
theorem hi_proof : (Tryd.prog.info? 38).map (·.size) = some 2 := by kernel_rfl

/-- A row of hashes lies in no proof's cells. -/
theorem Sl.no_proof {W : World} {B n gp : Nat} {A : Option Addr} {hs : List (List UInt8)} {m : Int} {v : Value} (h : Sl W B 32 A n (hCells hs)) (hn : 0 < n) (hl : hs.length = n) (h32h : h32 hs) (hp : Bk W gp 38 #[.int .i64 m, v]) (hv : ∃ P k c, v = .slice P k c) : ∀ b off, A = some ⟨b, off, none⟩ → b ≠ gp := by
  rintro b off rfl rfl
  obtain ⟨b', off', e, _, hc⟩ := h.2 hn
  injection e with e
  injection e with e1 e2
  subst e1
  subst e2
  obtain ⟨x, xs, rfl⟩ : ∃ x xs, hs = x :: xs := by
    match hs, hl with
    | [], hl => simp at hl; omega
    | x :: xs, _ => exact ⟨x, xs, rfl⟩
  obtain ⟨u, us, hx⟩ : ∃ u us, x = u :: us := by
    match x, h32h x (by simp) with
    | [], hl => simp at hl
    | u :: us, _ => exact ⟨u, us, rfl⟩
  have := hc 0 (.int .u8 (u.toNat : Int)) (by rw [hx]; simp [hCells, bts])
  rw [Nat.add_zero, hp.cell] at this
  obtain ⟨P, k, c, rfl⟩ := hv
  match off, this with
  | 0, this => simp at this
  | 1, this => simp at this
  | off + 2, this => simp at this
/-- Where Prove is: what lies where, and which parts there are. -/
structure PS (w : World) (g gp gh N0 : Nat) (l : List Ent) (A : Option Addr) (n c : Nat) (A3 : Option Addr) (c3 : Nat) (js : List Nat) (W : World) : Prop where
  b : Below g w W
  kl : Bk W g 22 #[.slice A n c]
  kr : Bk W (g + 1) 38 #[.int .i64 0, .slice none 0 0]
  kh : Bk W gh 39 #[.slice A3 n c3]
  sl : Sl W g 2 A l.length (eCells l)
  sh : Sl W gh 32 A3 n (hCells (l.map leafF))
  big : N0 ≤ W.heap.size
  st : ∃ ps v, Bk W gp 38 #[.int .i64 (n : Int), v] ∧ PartsIn N0 ps v W ∧ PartsOf l ps js ∧ ps.length = js.length
theorem PS.below {w : World} {g gp gh N0 : Nat} {l : List Ent} {A : Option Addr} {n c : Nat} {A3 : Option Addr} {c3 : Nat} {js : List Nat} {W W' : World} (h : PS w g gp gh N0 l A n c A3 c3 js W) (hb : Below W.heap.size W W') (h1 : gh < N0) (h2 : g < gh) : PS w g gp gh N0 l A n c A3 c3 js W' := by
  have hN := h.big
  obtain ⟨ps, v, a1, a2, a3, a4⟩ := h.st
  exact ⟨h.b.trans (hb.mono (by omega)), h.kl.below hb h.kl.lt, h.kr.below hb h.kr.lt, h.kh.below hb h.kh.lt, h.sl.below (hb.mono (by omega)), h.sh.below (hb.mono (by omega)), Nat.le_trans hN hb.size, ps, v, a1.below hb a1.lt, a2.below hb, a3, a4⟩
theorem PartsOf.get {l : List Ent} {i : Nat} {e : Ent} {A : Option Addr} {c : Nat} (he : l[i]? = some e) : IsPart l ⟨i, e, A, wayE l i, c⟩ i := ⟨rfl, he, rfl⟩
theorem PS.add {w : World} {g gp gh N0 : Nat} {l : List Ent} {A : Option Addr} {n c : Nat} {A3 : Option Addr} {c3 : Nat} {js : List Nat} {W : World} (h : PS w g gp gh N0 l A n c A3 c3 js W) (hgw : w.heap.size = g) (hr : Roots w) (h0 : 0 < w.heap.size) (hn : l.length = n) (h70 : n ≤ 70) (hc : n ≤ c3) (hcm : c3 ≤ maxLen) (hjs : js.length ≤ 10) (h1 : g + 1 < gp) (h2 : gp < gh) (h3 : gh < N0) (i : Int) :
    Calls Tryd.prog 36 #[.int .i64 i, .pointer (some ⟨g, 0, none⟩), .pointer (some ⟨gp, 0, none⟩), .pointer (some ⟨gh, 0, none⟩)] W fun en W' => en = .returned (.tuple #[]) ∧ PS w g gp gh N0 l A n c A3 c3 (js ++ (if 0 ≤ i ∧ i < (n : Int) then [i.toNat] else [])) W' := by
  by_cases hi : 0 ≤ i ∧ i < (n : Int)
  · obtain ⟨k, rfl⟩ : ∃ k : Nat, i = (k : Int) := ⟨i.toNat, by omega⟩
    rw [if_pos hi, Int.toNat_natCast]
    have hk : k < n := by omega
    obtain ⟨e, he⟩ : ∃ e, l[k]? = some e := ⟨_, List.getElem?_eq_getElem (by omega)⟩
    obtain ⟨ps, v, a1, a2, a3, a4⟩ := h.st
    have hN := h.big
    have hb0 := h.b
    refine (add_in g gp gh N0 l n hn h70 A A3 c c3 k hk e he ps (by omega) v W hc hcm (by omega) (by omega) (by omega) (by omega) h3 h.big h.kl a1 h.kh (h.sl.more (by omega)) (h.sh.more (by omega)) a2.row (hr.below hb0 (by rw [← hgw]; exact h0)) (by rw [hgw] at h0; omega)).mono ?_
    rintro en W' ⟨rfl, A', c', v', b1, b2, b3, hm⟩
    have hv : ∃ P k c, v = .slice P k c := by
      obtain ⟨P, cc, hv, _⟩ := own_sl a2.row
      exact ⟨P, _, cc, hv⟩
    have hno := h.sh.no_proof (by omega) (by rw [List.length_map, hn]) (leaves_32 l) a1 hv
    refine ⟨rfl, h.b.trans (hm.to_below (by omega) ?_), hm.bk h.kl ?_, hm.bk h.kr ?_, hm.bk h.kh ?_, Sl.moves h.sl hm ?_, ⟨h.sh.1, fun hn0 => ?_⟩, Nat.le_trans h.big hm.size, ps ++ [⟨k, e, A', wayE l k, c'⟩], v', b1, ⟨by rw [List.length_append]; exact b2, fun p hp => ?_⟩, a3.snoc (PartsOf.get he), by rw [List.length_append, List.length_append, a4]; rfl⟩
    · rintro q o (e1 | ⟨e1, _⟩) <;> omega
    · rintro (e1 | ⟨e1, _⟩) <;> omega
    · rintro (e1 | ⟨e1, _⟩) <;> omega
    · rintro (e1 | ⟨e1, _⟩) <;> omega
    · rintro q o (e1 | ⟨e1, _⟩) <;> omega
    · obtain ⟨b, off, e1, hb, hcc⟩ := h.sh.2 hn0
      refine ⟨b, off, e1, hb, fun j u hu => hm.cell (hcc j u hu) (fun o _ hX => ?_)⟩
      rcases hX with hX | ⟨hX, _⟩
      · exact hno b off e1 hX
      · simp at hX; omega
    · rcases List.mem_append.1 hp with hp | hp
      · exact (a2.paths p hp).moves hm (by omega)
      · rw [List.mem_singleton.1 hp]
        exact b3
  · rw [if_neg hi, List.append_nil]
    refine (add_out g gp gh A n c i hi W h.kl).mono ?_
    rintro en W' ⟨rfl, rfl⟩
    exact ⟨rfl, h⟩

theorem PS.done {w : World} {g gp gh N0 : Nat} {l : List Ent} {A : Option Addr} {n c : Nat} {A3 : Option Addr} {c3 : Nat} {js : List Nat} {W : World} (h : PS w g gp gh N0 l A n c A3 c3 js W) (hgw : w.heap.size = g) (hN : g + 1 < N0) :
    ∃ ps P c', Bk W gp 38 #[.int .i64 (n : Int), .slice P ps.length c'] ∧ PartsOf l ps js ∧ ∀ u1 u2, PartsIn g ps (.slice P ps.length c') ((W.setCell ⟨g + 1, 0, none⟩ u1).setCell ⟨g + 1, 1, none⟩ u2) ∧ Below g w ((W.setCell ⟨g + 1, 0, none⟩ u1).setCell ⟨g + 1, 1, none⟩ u2) := by
  obtain ⟨ps, v, a1, a2, a3, a4⟩ := h.st
  obtain ⟨P, cc, rfl, _⟩ := own_sl a2.row
  refine ⟨ps, P, cc, a1, a3, fun u1 u2 => ?_⟩
  have hm : Moves (fun k _ => k = g + 1) W ((W.setCell ⟨g + 1, 0, none⟩ u1).setCell ⟨g + 1, 1, none⟩ u2) := (Moves.setCell W ⟨g + 1, 0, none⟩ u1 (fun _ _ => rfl)).comp (Moves.setCell _ ⟨g + 1, 1, none⟩ u2 (fun _ _ => rfl))
  refine ⟨PartsIn.less ⟨hm.own a2.row (fun q cs h1 h2 => by omega), fun p hp => hm.own (show World.ownsRow _ _ _ _ _ _ _ from a2.paths p hp) (fun q cs h1 h2 => by omega)⟩ (by omega), h.b.trans (hm.to_below (Nat.le_trans (by omega) h.big) (fun k o h => by omega))⟩
theorem idx_true (n i : Nat) : ([] ++ (if 0 ≤ (i : Int) ∧ (i : Int) < (n : Int) then [(i : Int).toNat] else [])) = idxs n i true := by
  unfold idxs
  by_cases h : i < n
  · rw [if_pos (by omega), if_pos rfl, if_pos h, Int.toNat_natCast]
  · rw [if_neg (by omega), if_pos rfl, if_neg h]
theorem idx_false (n i : Nat) (hi : i ≤ n) : ([] ++ (if 0 ≤ (i : Int) - 1 ∧ (i : Int) - 1 < (n : Int) then [((i : Int) - 1).toNat] else [])) ++ (if 0 ≤ (i : Int) ∧ (i : Int) < (n : Int) then [(i : Int).toNat] else []) = idxs n i false := by
  unfold idxs
  have h1 : (if 0 ≤ (i : Int) - 1 ∧ (i : Int) - 1 < (n : Int) then [((i : Int) - 1).toNat] else []) = (if 1 ≤ i then [i - 1] else []) := by
    by_cases h : 1 ≤ i
    · rw [if_pos (by omega), if_pos h, show ((i : Int) - 1).toNat = i - 1 by omega]
    · rw [if_neg (by omega), if_neg h]
  have h2 : (if 0 ≤ (i : Int) ∧ (i : Int) < (n : Int) then [(i : Int).toNat] else []) = (if i < n then [i] else []) := by
    by_cases h : i < n
    · rw [if_pos (by omega), if_pos h, Int.toNat_natCast]
    · rw [if_neg (by omega), if_neg h]
  rw [h1, h2]
  simp only [List.nil_append, Bool.false_eq_true, if_false]

attribute [local irreducible] digF
set_option maxRecDepth 100000 in
set_option maxHeartbeats 8000000 in
theorem prove_bad (A : Option Addr) (l : List Ent) (n : Nat) (hn : l.length = n) (c : Nat) (key : ByteArray) (w : World) (hl : n ≤ 70) (hf : Fits l) (has : ascK l = false) (hA : Sl w w.heap.size 2 A l.length (eCells l)) :
    Calls Tryd.prog 18 #[.slice A n c, .string key] w fun e w' => e = .returned (.tuple #[.agg #[.int .i64 0, .slice none 0 0], .int .i64 51]) ∧ Below w.heap.size w w' := by
  subst hn
  have HA := Lib.hid hA
  have HF := Lib.hid hf
  have HAS := Lib.hid has
  obtain ⟨g, hg⟩ : ∃ x, w.heap.size = x := ⟨_, rfl⟩
  have HG := Lib.hid hg
  clear hA hf has
  go_enter Tryd.func18, Tryd.ntmps18
  go_upto_region 1 with fail
  have KL := (Bk.new w 22 #[.slice A l.length c]).alloc (.cells #[.int .i64 0, .slice none 0 0] 38)
  have KR := Bk.new (w.alloc (.cells #[.slice A l.length c] 22)) 38 #[.int .i64 0, .slice none 0 0]
  have L1 : Below w.heap.size w ((w.alloc (.cells #[.slice A l.length c] 22)).alloc (.cells #[.int .i64 0, .slice none 0 0] 38)) := (by (first | assumption | (repeat (first | exact Below.refl _ _ | assumption | apply Below.drew | apply below_drewN | (refine Below.setCell ?_ (by (try simp) <;> omega) _) | (refine Below.alloc ?_ (by (try simp) <;> omega) _)))))
  rw [World.size_alloc] at KR
  obtain ⟨w1, hw1⟩ : ∃ W, (w.alloc (.cells #[.slice A l.length c] 22)).alloc (.cells #[.int .i64 0, .slice none 0 0] 38) = W := ⟨_, rfl⟩
  rw [hw1] at KL KR L1 ⊢
  rw [hg] at KL KR
  have x0 : w1.cell? ⟨g, 0, none⟩ = some (.slice A l.length c) := KL.cell 0
  have HRT := Lib.hid (right_any A l c w1 hl HF.out ((HA.out.below L1).more L1.size))
  rw [HAS.out] at HRT
  have K1 := Lib.hid KR
  have HL1 := Lib.hid L1
  clear hw1 hg KL KR L1
  go_wp2_with fail
  with_reducible refine HRT.out.mono ?_
  rintro e w2 ⟨rfl, hb2⟩
  have K2 := Lib.hid (K1.out.below hb2 K1.out.lt)
  have L2 := Lib.hid (HL1.out.trans (hb2.mono HL1.out.size))
  clear hb2 K1 HL1 x0 HRT
  have c0 := K2.out.cell 0
  have c1 := K2.out.cell 1
  have f0 := K2.out.frozen 0
  have f1 := K2.out.frozen 1
  go_wp2_with fail
  have K3 := (K2.out.set_ 0 (.int .i64 0)).set_ 1 (.slice none 0 0)
  refine bodyPost_ret (results_cell2 rfl _ _ (g + 1) 38 #[.int .i64 0, .slice none 0 0] (0, 0) _ (.int .i64 51) (by rfl) (by rfl) K3 Tryd.underlying38 rfl (by rw [hi_proof]; rfl)) rfl ?_
  have hg1 : w.heap.size ≤ g + 1 := by rw [HG.out]; omega
  exact ⟨rfl, (L2.out.setCell (by simp; omega) _).setCell (by simp; omega) _⟩

set_option maxRecDepth 100000 in
set_option maxHeartbeats 8000000 in
theorem prove_any (A : Option Addr) (l : List Ent) (n : Nat) (hn : l.length = n) (c : Nat) (key : ByteArray) (w : World) (hl : n ≤ 70) (hf : Fits l) (has : ascK l = true) (hr : Roots w) (h0 : 0 < w.heap.size) (hA : Sl w w.heap.size 2 A l.length (eCells l)) :
    Calls Tryd.prog 18 #[.slice A n c, .string key] w fun e w' => ∃ i ps P c', LowK l key i ∧ PartsOf l ps (idxs n i (foundK l key i)) ∧ e = .returned (.tuple #[.agg #[.int .i64 (n : Int), .slice P ps.length c'], .int .i64 0]) ∧ PartsIn w.heap.size ps (.slice P ps.length c') w' ∧ Below w.heap.size w w' := by
  have HA := Lib.hid hA
  have HF := Lib.hid hf
  have HAS := Lib.hid has
  have HR := Lib.hid hr
  have HN := Lib.hid hn
  obtain ⟨g, hg⟩ : ∃ x, w.heap.size = x := ⟨_, rfl⟩
  have HG := Lib.hid hg
  clear hA hf has hr hn
  go_enter Tryd.func18, Tryd.ntmps18
  go_upto_region 1 with fail
  have KL := (Bk.new w 22 #[.slice A n c]).alloc (.cells #[.int .i64 0, .slice none 0 0] 38)
  have KR := Bk.new (w.alloc (.cells #[.slice A n c] 22)) 38 #[.int .i64 0, .slice none 0 0]
  have L1 : Below w.heap.size w ((w.alloc (.cells #[.slice A n c] 22)).alloc (.cells #[.int .i64 0, .slice none 0 0] 38)) := (by (first | assumption | (repeat (first | exact Below.refl _ _ | assumption | apply Below.drew | apply below_drewN | (refine Below.setCell ?_ (by (try simp) <;> omega) _) | (refine Below.alloc ?_ (by (try simp) <;> omega) _)))))
  rw [World.size_alloc] at KR
  obtain ⟨w1, hw1⟩ : ∃ W, (w.alloc (.cells #[.slice A n c] 22)).alloc (.cells #[.int .i64 0, .slice none 0 0] 38) = W := ⟨_, rfl⟩
  rw [hw1] at KL KR L1 ⊢
  rw [hg] at KL KR
  have x0 : w1.cell? ⟨g, 0, none⟩ = some (.slice A n c) := KL.cell 0
  have HRT := Lib.hid (right_any A l c w1 (by rw [HN.out]; exact hl) HF.out ((HA.out.below L1).more L1.size))
  rw [HAS.out, HN.out] at HRT
  have KL1 := Lib.hid KL
  have KR1 := Lib.hid KR
  have HL1 := Lib.hid L1
  clear hw1 hg KL KR L1
  go_wp2_with fail
  with_reducible refine HRT.out.mono ?_
  rintro e w2 ⟨rfl, hb2⟩
  have KR2 := Lib.hid (KR1.out.below hb2 KR1.out.lt)
  have KL2 := Lib.hid (KL1.out.below hb2 KL1.out.lt)
  have L2 := Lib.hid (HL1.out.trans (hb2.mono HL1.out.size))
  have y0 : w2.cell? ⟨g, 0, none⟩ = some (.slice A n c) := KL2.out.cell 0
  clear hb2 KR1 KL1 HL1 x0 HRT
  go_upto_region 4 with fail
  have KL3 := Lib.hid (KL2.out.alloc (.cells #[.int .i64 (n : Int), .slice none 0 0] 38))
  have KR3 := Lib.hid (KR2.out.alloc (.cells #[.int .i64 (n : Int), .slice none 0 0] 38))
  have KP3 := Bk.new w2 38 #[.int .i64 (n : Int), .slice none 0 0]
  have L3 : Below w.heap.size w (w2.alloc (.cells #[.int .i64 (n : Int), .slice none 0 0] 38)) := L2.out.alloc L2.out.size _
  have z3 : (w2.alloc (.cells #[.int .i64 (n : Int), .slice none 0 0] 38)).heap.size = w2.heap.size + 1 := by simp
  obtain ⟨w3, hw3⟩ : ∃ W, w2.alloc (.cells #[.int .i64 (n : Int), .slice none 0 0] 38) = W := ⟨_, rfl⟩
  obtain ⟨gp, hgp⟩ : ∃ x, w2.heap.size = x := ⟨_, rfl⟩
  have hggp : g + 2 ≤ gp := by have := KR2.out.lt; omega
  rw [hw3] at KL3 KR3 KP3 L3 z3 ⊢
  rw [hgp] at KP3 z3 ⊢
  have KP := Lib.hid KP3
  have HL3 := Lib.hid L3
  have HZ3 := Lib.hid z3
  have y1 : w3.cell? ⟨g, 0, none⟩ = some (.slice A n c) := KL3.out.cell 0
  clear hw3 hgp KP3 L3 z3 L2 KL2 KR2 y0
  have HLV := leaves_any A l c w3 (by rw [HN.out]; exact hl) HF.out (HR.out.below HL3.out h0) (Nat.lt_of_lt_of_le h0 HL3.out.size) ((HA.out.below HL3.out).more HL3.out.size)
  rw [HN.out] at HLV
  have HLV := Lib.hid HLV
  go_upto_region 5 with (go_at_call 27; with_reducible refine HLV.out.mono ?_; rintro en w4 ⟨A3, c3, rfl, h31, h32', h33, hb4⟩; have H3 := Lib.hid (And.intro h31 (And.intro h32' h33)); have HB4 := Lib.hid hb4; clear h31 h32' h33 hb4)
  have KH5 := Bk.new w4 39 #[.slice A3 n c3]
  have hb5 : Below w3.heap.size w3 (w4.alloc (.cells #[.slice A3 n c3] 39)) := HB4.out.alloc HB4.out.size _
  have hb45 : Below w4.heap.size w4 (w4.alloc (.cells #[.slice A3 n c3] 39)) := (by (first | assumption | (repeat (first | exact Below.refl _ _ | assumption | apply Below.drew | apply below_drewN | (refine Below.setCell ?_ (by (try simp) <;> omega) _) | (refine Below.alloc ?_ (by (try simp) <;> omega) _)))))
  have z5 : (w4.alloc (.cells #[.slice A3 n c3] 39)).heap.size = w4.heap.size + 1 := by simp
  obtain ⟨w5, hw5⟩ : ∃ W, w4.alloc (.cells #[.slice A3 n c3] 39) = W := ⟨_, rfl⟩
  obtain ⟨gh, hgh⟩ : ∃ x, w4.heap.size = x := ⟨_, rfl⟩
  have hgph : gp < gh := by have := HB4.out.size; have := HZ3.out; omega
  rw [hw5] at KH5 hb5 hb45 z5 ⊢
  rw [hgh] at KH5 z5 hb45 ⊢
  have L5 := HL3.out.trans (hb5.mono HL3.out.size)
  have P5 : PS w g gp gh (gh + 1) l A n c A3 c3 [] w5 := ⟨by rw [HG.out] at L5; exact L5, KL3.out.below hb5 KL3.out.lt, KR3.out.below hb5 KR3.out.lt, KH5, by have := HA.out.below L5; rw [HG.out] at this; exact this, by have := H3.out.2.2; rw [hgh] at this; exact this.below hb45, by omega, [], .slice none 0 0, KP.out.below hb5 KP.out.lt, PartsIn.nil _ _, trivial, rfl⟩
  have HP5 := Lib.hid P5
  have y5 : w5.cell? ⟨g, 0, none⟩ = some (.slice A n c) := P5.kl.cell 0
  have HSR := Lib.hid (search_any A l n c HN.out key w5 (by omega) (riseK_of HAS.out) (P5.sl.more (by have := L5.size; rw [HG.out] at this; exact this)))
  have H3' := Lib.hid (And.intro H3.out.1 H3.out.2.1)
  clear hw5 hgh KH5 hb5 hb45 z5 L5 P5 KL3 KR3 KP HL3 HZ3 y1 HLV HB4 H3 HF HAS
  go_wp2_with fail
  with_reducible refine HSR.out.mono ?_
  rintro en w6 ⟨i, hlow, rfl, hb6⟩
  have P6 := Lib.hid (HP5.out.below hb6 (by omega) (by omega))
  have LOW := Lib.hid hlow
  have hin := hlow.le
  rw [HN.out] at hin
  obtain ⟨fd, hfd⟩ : ∃ x, foundK l key i = x := ⟨_, rfl⟩
  have FD := Lib.hid hfd
  rw [hfd]
  clear hb6 hlow hfd HSR HP5 y5
  cases fd with
  | true =>
    have hA1 := Lib.hid (P6.out.add HG.out HR.out h0 HN.out hl H3'.out.1 H3'.out.2 (by simp) (by omega) hgph (by omega) (i : Int))
    clear P6
    go_upto_region 10 with (go_at_call 36; with_reducible refine hA1.out.mono ?_; rintro en w8 ⟨rfl, hp8⟩)
    have P8 := hp8
    rw [idx_true] at P8
    obtain ⟨ps, P, c', q1, q2, q3⟩ := P8.done HG.out (by omega)
    have c0 := q1.cell 0
    have c1 := q1.cell 1
    have d0 := P8.kr.cell 0
    have d1 := P8.kr.cell 1
    have f0 := P8.kr.frozen 0
    have f1 := P8.kr.frozen 1
    have K9 := Lib.hid ((P8.kr.set_ 0 (.int .i64 (n : Int))).set_ 1 (.slice P ps.length c'))
    have Q2 := Lib.hid q2
    have Q3 := Lib.hid (q3 (.int .i64 (n : Int)) (.slice P ps.length c'))
    clear q1 q2 q3 P8 hp8
    go_wp2_with fail
    refine bodyPost_ret (results_cell2 rfl _ _ (g + 1) 38 #[.int .i64 (n : Int), .slice P ps.length c'] (0, 0) _ (.int .i64 0) (by rfl) (by rfl) K9.out Tryd.underlying38 rfl (by rw [hi_proof]; rfl)) rfl ?_
    exact ⟨i, ps, P, c', LOW.out, by rw [FD.out]; exact Q2.out, rfl, by rw [HG.out]; exact Q3.out.1, by rw [HG.out]; exact Q3.out.2⟩
  | false =>
    have hA1 := Lib.hid (P6.out.add HG.out HR.out h0 HN.out hl H3'.out.1 H3'.out.2 (by simp) (by omega) hgph (by omega) ((i : Int) - 1))
    clear P6
    go_upto_region 9 with (go_at_call 36; with_reducible refine hA1.out.mono ?_; rintro en w7 ⟨rfl, hp7⟩)
    have hA2 := Lib.hid (hp7.add HG.out HR.out h0 HN.out hl H3'.out.1 H3'.out.2 (by rw [List.nil_append]; split <;> simp) (by omega) hgph (by omega) (i : Int))
    clear hp7 hA1
    go_upto_region 10 with (go_at_call 36; with_reducible refine hA2.out.mono ?_; rintro en w8 ⟨rfl, hp8⟩)
    have P8 := hp8
    rw [idx_false n i hin] at P8
    obtain ⟨ps, P, c', q1, q2, q3⟩ := P8.done HG.out (by omega)
    have c0 := q1.cell 0
    have c1 := q1.cell 1
    have d0 := P8.kr.cell 0
    have d1 := P8.kr.cell 1
    have f0 := P8.kr.frozen 0
    have f1 := P8.kr.frozen 1
    have K9 := Lib.hid ((P8.kr.set_ 0 (.int .i64 (n : Int))).set_ 1 (.slice P ps.length c'))
    have Q2 := Lib.hid q2
    have Q3 := Lib.hid (q3 (.int .i64 (n : Int)) (.slice P ps.length c'))
    clear q1 q2 q3 P8 hp8
    go_wp2_with fail
    refine bodyPost_ret (results_cell2 rfl _ _ (g + 1) 38 #[.int .i64 (n : Int), .slice P ps.length c'] (0, 0) _ (.int .i64 0) (by rfl) (by rfl) K9.out Tryd.underlying38 rfl (by rw [hi_proof]; rfl)) rfl ?_
    exact ⟨i, ps, P, c', LOW.out, by rw [FD.out]; exact Q2.out, rfl, by rw [HG.out]; exact Q3.out.1, by rw [HG.out]; exact Q3.out.2⟩
end Go.Proofs.YtdeikpifflkabaaDoor

namespace Go.Proofs.YtdeikpifflkabaaDoor
open Go.RowKit Go.Shelf
set_option linter.unusedVariables false
set_option linter.unusedSimpArgs false

theorem rootV_asc {l : List Ent} (h : ascK l = true) : rootV l = (rootE l, 0) := by unfold rootV; rw [h, if_pos rfl]
/-- What a key has. -/
def findF (key : ByteArray) : List Ent → ByteArray × Bool
  | [] => (noB, false)
  | e :: l => if e.1 = key then (e.2, true) else findF key l
theorem find_none {key : ByteArray} : ∀ {l : List Ent}, (∀ e ∈ l, e.1 ≠ key) → findF key l = (noB, false)
  | [], _ => rfl
  | e :: l, h => by
    rw [findF, if_neg (h e (by simp))]
    exact find_none (fun a ha => h a (by simp [ha]))
theorem find_at {key : ByteArray} : ∀ {l : List Ent} {i : Nat} {e : Ent}, l[i]? = some e → e.1 = key → (∀ j v, j < i → l[j]? = some v → v.1 ≠ key) → findF key l = (e.2, true)
  | [], i, e, h, _, _ => by simp at h
  | a :: l, 0, e, h, hk, _ => by
    have : a = e := by simpa using h
    subst this
    rw [findF, if_pos hk]
  | a :: l, i + 1, e, h, hk, hlo => by
    rw [findF, if_neg (hlo 0 a (by omega) (by simp))]
    exact find_at (by simpa using h) hk (fun j v hj hv => hlo (j + 1) v (by omega) (by simpa using hv))
theorem ltK_ne {a b : ByteArray} (h : ltK a b = true) : a ≠ b := by
  rintro rfl
  rw [ltK_irrefl] at h
  cases h
theorem low_found {l : List Ent} {key : ByteArray} {i : Nat} (hlow : LowK l key i) (hf : foundK l key i = true) : ∃ e, l[i]? = some e ∧ e.1 = key ∧ findF key l = (e.2, true) := by
  unfold foundK at hf
  cases he : l[i]? with
  | none => rw [he] at hf; cases hf
  | some e =>
    rw [he] at hf
    have hk : e.1 = key := of_decide_eq_true hf
    exact ⟨e, rfl, hk, find_at he hk (fun j v hj hv => ltK_ne (hlow.lo j v hj hv))⟩
theorem low_not {l : List Ent} {key : ByteArray} {i : Nat} (hs : RiseK l) (hlow : LowK l key i) (hf : foundK l key i = false) : findF key l = (noB, false) ∧ ∀ e, l[i]? = some e → ltK key e.1 = true := by
  have hi : ∀ e, l[i]? = some e → ltK key e.1 = true := fun e he => by
    unfold foundK at hf
    rw [he] at hf
    have hk : e.1 ≠ key := of_decide_eq_false hf
    cases h : ltK key e.1 with
    | true => rfl
    | false => exact absurd (ltK_total (hlow.hi i e (Nat.le_refl _) he) h) hk
  refine ⟨find_none (fun e he => ?_), hi⟩
  obtain ⟨j, hj⟩ := List.mem_iff_getElem?.1 he
  rcases Nat.lt_trichotomy j i with h | h | h
  · exact ltK_ne (hlow.lo j e h hj)
  · subst h
    exact (ltK_ne (hi e hj)).symm
  · have hil : i < l.length := by
      have := (List.getElem?_eq_some_iff.1 hj).1
      omega
    have hv : l[i]? = some l[i] := List.getElem?_eq_getElem hil
    exact (ltK_ne (ltK_trans (hi _ hv) (hs i j _ e h hv hj))).symm

theorem IsPart.lt {l : List Ent} {p : PartV} {j : Nat} (h : IsPart l p j) : j < l.length := (List.getElem?_eq_some_iff.1 h.e).1
theorem IsPart.leads {l : List Ent} {p : PartV} {j n : Nat} (h : IsPart l p j) (hn : l.length = n) : p.leads (rootE l) n = true := by
  unfold PartV.leads
  rw [h.idx, leadsF_in (by rw [← hn]; exact h.lt), h.path, up_way n l j p.e hn h.e]
  simp
theorem PartsOf.leads {l : List Ent} {n : Nat} (hn : l.length = n) : ∀ {ps : List PartV} {js : List Nat}, PartsOf l ps js → ∀ p ∈ ps, p.leads (rootE l) n = true
  | [], [], _, p, hp => by cases hp
  | q :: ps, j :: js, h, p, hp => by
    rcases List.mem_cons.1 hp with rfl | hp
    · exact h.1.leads hn
    · exact PartsOf.leads hn h.2 p hp
theorem PartsOf.each {l : List Ent} : ∀ {ps : List PartV} {js : List Nat}, PartsOf l ps js → ∀ p ∈ ps, ∃ j, IsPart l p j
  | [], [], _, p, hp => by cases hp
  | q :: ps, j :: js, h, p, hp => by
    rcases List.mem_cons.1 hp with rfl | hp
    · exact ⟨j, h.1⟩
    · exact PartsOf.each h.2 p hp
theorem PartsOf.len {l : List Ent} : ∀ {ps : List PartV} {js : List Nat}, PartsOf l ps js → ps.length = js.length
  | [], [], _ => rfl
  | q :: ps, j :: js, h => by rw [List.length_cons, List.length_cons, PartsOf.len h.2]
theorem idxs_len (n i : Nat) (b : Bool) : (idxs n i b).length ≤ 2 := by
  unfold idxs
  rw [List.length_append]
  have h1 : (if b = true then [] else if 1 ≤ i then [i - 1] else ([] : List Nat)).length ≤ 1 := by
    split
    · simp
    · split <;> simp
  have h2 : (if i < n then [i] else ([] : List Nat)).length ≤ 1 := by split <;> simp
  omega
theorem way_short {l : List Ent} (j : Nat) (h : l.length ≤ 70) : (wayE l j).length ≤ 7 := by
  rw [wayE_len l.length l j rfl]
  exact turnsL_deep 7 l.length j (by omega)
theorem IsPart.fits {l : List Ent} {p : PartV} {j : Nat} (h : IsPart l p j) (hl : l.length ≤ 70) (hf : Fits l) : p.fits := by
  have := hf _ (List.mem_of_getElem? h.e)
  exact ⟨this.1, this.2, by rw [h.path]; have := way_short (l := l) j hl; omega⟩
theorem PartsIn.good {l : List Ent} {N0 : Nat} {ps : List PartV} {js : List Nat} {v : Value} {W : World} (h : PartsIn N0 ps v W) (ho : PartsOf l ps js) (hl : l.length ≤ 70) : ∀ p ∈ ps, p.good W := fun p hp => by
  obtain ⟨A, c, e, h1, h2, h3⟩ := own_sl (show World.ownsRow _ _ _ _ _ _ _ from h.paths p hp)
  injection e with e1 e2 e3
  obtain ⟨j, hj⟩ := ho.each p hp
  have hlt := hj.lt
  refine ⟨by omega, by omega, ?_, by rw [hj.idx]; omega, by rw [hj.idx]; omega, by rw [e1]; exact h3⟩
  rw [hj.path]
  exact wayE_32 l.length l j rfl
/-- What is proved is accepted, and says what the entries have. -/
theorem tells {l : List Ent} {n i : Nat} {key : ByteArray} {ps : List PartV} (hn : l.length = n) (h70 : n ≤ 4096) (hs : RiseK l) (hlow : LowK l key i) (hp : PartsOf l ps (idxs n i (foundK l key i))) : checkF (rootE l) key (n : Int) ps = ((findF key l).1, (findF key l).2, true) := by
  rw [checkF_say h70 (hp.leads hn)]
  cases hf : foundK l key i with
  | true =>
    obtain ⟨e, he, hk, hfd⟩ := low_found hlow hf
    have hi : i < n := by rw [← hn]; exact (List.getElem?_eq_some_iff.1 he).1
    rw [hf] at hp
    have e1 : idxs n i true = [i] := by unfold idxs; rw [if_pos rfl, if_pos hi]; rfl
    rw [e1] at hp
    match ps, hp with
    | [p], hp =>
      have h1 := hp.1
      have : p.e = e := Option.some.inj (h1.e.symm.trans he)
      rw [sayF, this, if_pos hk, hfd]
  | false =>
    obtain ⟨hfd, hgt⟩ := low_not hs hlow hf
    rw [hf] at hp
    rw [hfd]
    have hle := hlow.le
    by_cases h1 : 1 ≤ i
    · by_cases h2 : i < n
      · have e1 : idxs n i false = [i - 1, i] := by unfold idxs; rw [if_neg (by simp), if_pos h1, if_pos h2]; rfl
        rw [e1] at hp
        match ps, hp with
        | [p, q], hp =>
          obtain ⟨a1, a2, _⟩ := hp
          have b1 := hlow.lo _ _ (by omega) a1.e
          have b2 := hgt _ a2.e
          rw [sayF, b1, b2, a1.idx, a2.idx, decide_eq_true (by omega)]
          rfl
      · have e1 : idxs n i false = [i - 1] := by unfold idxs; rw [if_neg (by simp), if_pos h1, if_neg h2]; rfl
        rw [e1] at hp
        match ps, hp with
        | [p], hp =>
          have a1 := hp.1
          have b1 := hlow.lo _ _ (by omega) a1.e
          rw [sayF, if_neg (ltK_ne b1), b1, a1.idx, decide_eq_true (p := ((i - 1 : Nat) : Int) = (n : Int) - 1) (by omega)]
          simp
    · obtain rfl : i = 0 := by omega
      by_cases h2 : 0 < n
      · have e1 : idxs n 0 false = [0] := by unfold idxs; rw [if_neg (by simp), if_neg (by omega), if_pos h2]; rfl
        rw [e1] at hp
        match ps, hp with
        | [p], hp =>
          have a1 := hp.1
          have b2 := hgt _ a1.e
          rw [sayF, if_neg (ltK_ne b2).symm, b2, a1.idx, decide_eq_true (p := ((0 : Nat) : Int) = 0) rfl]
          simp
      · obtain rfl : n = 0 := by omega
        obtain rfl : l = [] := List.eq_nil_of_length_eq_zero hn
        have e1 : idxs 0 0 false = [] := rfl
        rw [e1] at hp
        match ps, hp with
        | [], hp =>
          rw [sayF, decide_eq_true (p := (0 : Nat) = 0) rfl, show rootE [] = digF [] from rootF_nil]
          simp

set_option maxHeartbeats 2000000 in
theorem rfind_any (A : Option Addr) (l : List Ent) (n c : Nat) (hn : l.length = n) (key : ByteArray) (w : World) (hl : n ≤ 1000000) (hA : Sl w w.heap.size 2 A l.length (eCells l)) :
    Calls Tryd.prog 22 #[.slice A n c, .string key] w fun e w' => e = .returned (.tuple #[.string (findF key l).1, .bool (findF key l).2]) ∧ Below w.heap.size w w' := by
  subst hn
  have HA := Lib.hid hA
  clear hA
  go_enter Tryd.func22, Tryd.ntmps22
  go_wp2_with fail
  go_loopw [6] (fun i wr => ∃ (k : Nat), k ≤ l.length ∧ i = .int .i64 k ∧ (∀ j v, j < k → l[j]? = some v → v.1 ≠ key) ∧ Below w.heap.size w wr) (fun i _ => l.length - (intOf i).toNat)
  case atStart => exact ⟨0, by omega, rfl, fun j v hj => by omega, Below.refl _ _⟩
  case round =>
    obtain ⟨k, hk, rfl, hne, hbel⟩ := hrel
    have NE := Lib.hid hne
    have L := Lib.hid hbel
    clear hne hbel
    by_cases hlt : k < l.length
    · have hlt' : (k : Int) < (l.length : Int) := by omega
      obtain ⟨bb, off, ke, va, rfl, hb, hck, hcv, hlk⟩ := (HA.out.below L.out).ent hlt
      have LK := Lib.hid hlk
      by_cases he : ke = key
      · have HF : Hid (findF key l = (va, true)) := Lib.hid (find_at hlk he NE.out)
        have e1 : (ke.toList == key.toList) = true := by rw [eqK, decide_eq_true he]
        subst he
        clear hlk
        go_wp2_with fail
        go_ret2
        exact ⟨by rw [HF.out]; rfl, L.out⟩
      · have e1 : (ke.toList == key.toList) = false := by rw [eqK, decide_eq_false he]
        have e2 : ¬ ke.toList = key.toList := by simpa using e1
        have HE := Lib.hid he
        clear hlk he
        go_wp2_with fail
        go_roundw
        case rel =>
          refine ⟨k + 1, by omega, by go_num, fun j v hj hv => ?_, L.out⟩
          by_cases e : j = k
          · subst e
            have := LK.out.symm.trans hv
            cases this
            exact HE.out
          · exact NE.out j v (by omega) hv
        case measure => simp [intOf]; omega
    · obtain rfl : k = l.length := by omega
      have HF : Hid (findF key l = (noB, false)) := Lib.hid (find_none (fun e he => by
        obtain ⟨j, hj⟩ := List.mem_iff_getElem?.1 he
        exact NE.out j e (List.getElem?_eq_some_iff.1 hj).1 hj))
      go_wp2_with fail
      go_ret2
      exact ⟨by rw [HF.out]; rfl, L.out⟩
end Go.Proofs.YtdeikpifflkabaaDoor

/- What this text proves: how the reference's reader lies in memory, and the contracts of its methods take, Word, Number, Hash, Text, Count, End. The conditions are how it lies. -/
import Derived.Test.YtclnpglnomfjkaaDoorWireRd
namespace Go.Proofs.YtclnpglnomfjkaaDoor
open Go.RowKit Go.Shelf
set_option linter.unusedVariables false
set_option linter.unusedSimpArgs false

/-- Block g holds the reference's reader of the bytes l, which lie below B. -/
def RsR (w : World) (B g : Nat) (l : List UInt8) (brk : Bool) : Prop :=
  ∃ A c, Bk w g 48 #[.slice A l.length c, .bool brk] ∧ l.length ≤ c ∧ c ≤ maxLen ∧ Sl w B 1 A l.length (bts l) ∧ (A = none → c = 0) ∧ B ≤ g
def RfS (w : World) (B g : Nat) : Option (List UInt8) → Prop
  | some l => RsR w B g l false
  | none => ∃ l, RsR w B g l true
def MR (w : World) (B g : Nat) (x : Value × Option (List UInt8)) (e : Ending) (w' : World) : Prop := e = .returned x.1 ∧ RfS w' B g x.2 ∧ w.grownBy w' (some g)
theorem RsR.lt {w : World} {B g : Nat} {l : List UInt8} {brk : Bool} (h : RsR w B g l brk) : g < w.heap.size := by
  obtain ⟨A, c, h, _⟩ := h
  exact h.lt
theorem RfS.lt {w : World} {B g : Nat} {s : Option (List UInt8)} (h : RfS w B g s) : g < w.heap.size := by
  cases s with
  | some l => exact RsR.lt h
  | none => obtain ⟨l, h⟩ := h; exact h.lt
theorem RfS.ge {w : World} {B g : Nat} {s : Option (List UInt8)} (h : RfS w B g s) : B ≤ g := by
  cases s with
  | some l => obtain ⟨A, c, _, _, _, _, _, h⟩ := h; exact h
  | none => obtain ⟨l, A, c, _, _, _, _, _, h⟩ := h; exact h
theorem RsR.move {w w' : World} {B g : Nat} {row : Option Nat} {l : List UInt8} {brk : Bool} (h : RsR w B g l brk) (hg : w.grownBy w' row) (hk : some g ≠ row) (hB : ∀ b, b < B → some b ≠ row) : RsR w' B g l brk := by
  obtain ⟨A, c, h1, h2, h3, h4, h5, h6⟩ := h
  have hlt := h1.lt
  refine ⟨A, c, h1.grown hg hk, h2, h3, h4.grown (by omega) hg (fun b off e hn => ?_), h5, h6⟩
  obtain ⟨b', off', e', hb', _⟩ := h4.2 hn
  rw [e] at e'
  cases e'
  exact hB b hb'
theorem RfS.move {w w' : World} {B g : Nat} {row : Option Nat} {s : Option (List UInt8)} (h : RfS w B g s) (hg : w.grownBy w' row) (hk : some g ≠ row) (hB : ∀ b, b < B → some b ≠ row) : RfS w' B g s := by
  cases s with
  | some l => exact RsR.move h hg hk hB
  | none => obtain ⟨l, h⟩ := h; exact ⟨l, h.move hg hk hB⟩
theorem RfS.old {w w' : World} {B g : Nat} {s : Option (List UInt8)} (h : RfS w B g s) (hb : Below w.heap.size w w') : RfS w' B g s :=
  h.move (below_grown hb none) (by simp) (by simp)
theorem RsR.brk {w : World} {B g : Nat} {l : List UInt8} {brk : Bool} (h : RsR w B g l brk) : RsR (w.setCell ⟨g, 1, none⟩ (.bool true)) B g l true := by
  obtain ⟨A, c, h1, h2, h3, h4, h5, h6⟩ := h
  have hlt := h1.lt
  refine ⟨A, c, ?_, h2, h3, h4.grown (by omega) (Lib.grownBy_setCell w g 1 _) (fun b off e hn => ?_), h5, h6⟩
  · have := h1.set_ 1 (.bool true)
    exact this
  · obtain ⟨b', off', e', hb', _⟩ := h4.2 hn
    rw [e] at e'
    cases e'
    intro he
    have := Option.some.inj he
    omega

theorem alc_bel (w : World) (cs : Array Value) (t : TypeId) : Below w.heap.size w (w.alloc (.cells cs t)) := (by (first | assumption | (repeat (first | exact Below.refl _ _ | assumption | apply Below.drew | apply below_drewN | (refine Below.setCell ?_ (by (try simp) <;> omega) _) | (refine Below.alloc ?_ (by (try simp) <;> omega) _)))))
/-- What a taking gives, and what is left. -/
def tk (n : Nat) : Option (List UInt8) → List UInt8 × Option (List UInt8)
  | some l => if n ≤ l.length then (l.take n, some (l.drop n)) else (List.replicate n 0, none)
  | none => (List.replicate n 0, none)
theorem tk_len (n : Nat) (s : Option (List UInt8)) : (tk n s).1.length = n := by
  cases s with
  | none => simp [tk]
  | some l =>
    unfold tk
    simp only
    split
    · simp; omega
    · simp
theorem tk_word (s : Option (List UInt8)) : (Value.int .u64 (beN (tk 8 s).1 : Nat), (tk 8 s).2) = rstep wordR (.int .u64 0) s := by
  have h0 : beN (List.replicate 8 0) = 0 := by decide
  cases s with
  | none => simp only [tk, rstep, h0]; rfl
  | some l =>
    simp only [tk, rstep, wordR]
    by_cases h : 8 ≤ l.length
    · simp [h]
    · simp only [h, if_false, h0]; rfl
theorem tk_hash (s : Option (List UInt8)) : (Value.agg (bts (tk 32 s).1).toArray, (tk 32 s).2) = rstep hashR (.agg (bts zB).toArray) s := by
  have h0 : bts (List.replicate 32 0) = bts zB := rfl
  cases s with
  | none => simp only [tk, rstep, h0]
  | some l =>
    simp only [tk, rstep, hashR]
    by_cases h : 32 ≤ l.length
    · simp [h]
    · simp only [h, if_false, h0]

theorem zero_sl (w : World) (n : Nat) : Sl (w.alloc (.cells (Array.replicate n (.int .u8 0)) 5)) (w.alloc (.cells (Array.replicate n (.int .u8 0)) 5)).heap.size 1 (some ⟨w.heap.size, 0, none⟩) n (bts (List.replicate n 0)) := by
  refine ⟨by simp [bts], fun _ => ⟨w.heap.size, 0, rfl, by simp, fun j u hu => ?_⟩⟩
  rw [Nat.zero_add, (Bk.new w 5 (Array.replicate n (.int .u8 0))).cell j]
  have : bts (List.replicate n 0) = List.replicate n (.int .u8 0) := by simp [bts]
  rw [this] at hu
  rw [← List.toArray_replicate, List.getElem?_toArray]
  exact hu

theorem made_zero (n : Nat) : madeCells (Value.cells (.int .u8 0)) n = Array.replicate n (.int .u8 0) := by
  apply Array.ext
  · simp [madeCells]
  · intro i h1 h2
    simp [madeCells, Value.cells, Nat.mod_one]
theorem make_u8 (n : Nat) (hn : n ≤ 4096) (W : World) : (Instr.makeSlice 26 (.int .i64 (n : Int)) (.int .i64 (n : Int))).run Tryd.prog W = .ok (.slice (some ⟨W.heap.size, 0, none⟩) n n) (W.alloc (.cells (Array.replicate n (.int .u8 0)) 5)) := by
  obtain ⟨i0, hi0, hz0, hz1, hz2⟩ := info_parts wu8_info
  have := run_makeSlice (w := W) 26 5 i0 (.int .u8 0) Tryd.underlying26 hi0 hz0 .i64 .i64 n n (by omega) (by omega) (by rw [hz1]; simp; omega) (by rw [hz2]; omega) (by omega)
  rw [this, hz1]
  simp [made_zero]
set_option maxHeartbeats 2000000 in
theorem rtake_bad (B g : Nat) (s : Option (List UInt8)) (n : Nat) (ni : Int) (hni : ni = n) (w : World) (h : RfS w B g s) (hn : n ≤ 4096) (hb : ∀ l, s = some l → l.length < n) :
    Calls Tryd.prog 41 #[.pointer (some ⟨g, 0, none⟩), .int .i64 ni] w fun e w' => ∃ A c, e = .returned (.slice A n c) ∧ n ≤ c ∧ c ≤ maxLen ∧ Sl w' w'.heap.size 1 A n (bts (List.replicate n 0)) ∧ RfS w' B g none ∧ w.grownBy w' (some g) := by
  subst hni
  obtain ⟨l, brk, hr, hl⟩ : ∃ l brk, RsR w B g l brk ∧ (brk = false → l.length < n) := by
    cases s with
    | some l => exact ⟨l, false, h, fun _ => hb l rfl⟩
    | none => obtain ⟨l, h⟩ := h; exact ⟨l, true, h, fun e => by cases e⟩
  clear h hb
  have HR := Lib.hid hr.brk
  obtain ⟨A, c, hk, hlc, hcm, hs, hz, hB⟩ := hr
  obtain ⟨m, hm⟩ : ∃ m, l.length = m := ⟨_, rfl⟩
  rw [hm] at hk hl
  have c0 : w.cell? ⟨g, 0, none⟩ = some (.slice A m c) := hk.cell 0
  have c1 : w.cell? ⟨g, 1, none⟩ = some (.bool brk) := hk.cell 1
  have f1 := hk.frozen 1
  have hbel := alc_bel (w.setCell ⟨g, 1, none⟩ (.bool true)) (.replicate n (.int .u8 0)) 5
  have HB := Lib.hid hbel
  have HG : Hid (w.grownBy ((w.setCell ⟨g, 1, none⟩ (.bool true)).alloc (.cells (Array.replicate n (.int .u8 0)) 5)) (some g)) := Lib.hid (Lib.grownBy_trans (Lib.grownBy_setCell w g 1 _) (below_grown hbel _))
  have HS := Lib.hid (zero_sl (w.setCell ⟨g, 1, none⟩ (.bool true)) n)
  have hmk := make_u8 n hn
  have hn0 : (0 : Int) ≤ (n : Int) := by omega
  have hn1 : (n : Int) ≤ 4096 := by omega
  clear hk hs hz hlc hcm hm hbel
  cases brk with
  | true =>
    go_enter Tryd.func41, Tryd.ntmps41
    go_wp2_with fail
    go_ret
    refine ⟨_, _, rfl, Nat.le_refl _, by unfold maxLen; omega, ?_, ?_, HG.out⟩
    · have := HS.out
      rw [show (w.setCell ⟨g, 1, none⟩ (.bool true)).heap.size = w.heap.size by simp [World.setCell]] at this
      simpa [World.setCell] using this
    · exact ⟨l, (HR.out.move (below_grown HB.out none) (by simp) (by simp))⟩
  | false =>
    have e1 : decide ((m : Int) < (n : Int)) = true := by have := hl rfl; simp; omega
    go_enter Tryd.func41, Tryd.ntmps41
    go_wp2_with fail
    go_ret
    refine ⟨_, _, rfl, Nat.le_refl _, by unfold maxLen; omega, ?_, ?_, HG.out⟩
    · have := HS.out
      rw [show (w.setCell ⟨g, 1, none⟩ (.bool true)).heap.size = w.heap.size by simp [World.setCell]] at this
      simpa [World.setCell] using this
    · exact ⟨l, (HR.out.move (below_grown HB.out none) (by simp) (by simp))⟩

set_option maxHeartbeats 2000000 in
theorem rtake_ok (B g : Nat) (l : List UInt8) (n : Nat) (ni : Int) (hni : ni = n) (w : World) (h : RsR w B g l false) (hn : n ≤ l.length) :
    Calls Tryd.prog 41 #[.pointer (some ⟨g, 0, none⟩), .int .i64 ni] w fun e w' => ∃ A c, e = .returned (.slice A n c) ∧ n ≤ c ∧ c ≤ maxLen ∧ Sl w' w'.heap.size 1 A n (bts (l.take n)) ∧ RsR w' B g (l.drop n) false ∧ w.grownBy w' (some g) := by
  subst hni
  obtain ⟨A, c, hb, hlc, hcm, hs, hz, hB⟩ := h
  have hgl := hb.lt
  have HT := Lib.hid (hs.take hn)
  have HD := Lib.hid (hs.drop hn hlc)
  rw [Nat.mul_one, bts_take] at HT
  rw [Nat.mul_one, bts_drop] at HD
  obtain ⟨m, hm⟩ : ∃ m, l.length = m := ⟨_, rfl⟩
  have HS := Lib.hid hs
  have HB := Lib.hid hb
  have HM := Lib.hid hm
  rw [hm] at hb hn hlc HD
  have c0 : w.cell? ⟨g, 0, none⟩ = some (.slice A m c) := hb.cell 0
  have c1 : w.cell? ⟨g, 1, none⟩ = some (.bool false) := hb.cell 1
  have f0 := hb.frozen 0
  have e1 : decide ((m : Int) < (n : Int)) = false := by simp; omega
  have HC := Lib.hid hcm
  unfold maxLen at hcm
  have hdl : (l.drop n).length = m - n := by rw [List.length_drop, hm]
  have keep : ∀ (A2 : Option Addr) (k : Nat) (cs : List Value) (u : Value), Sl w B 1 A2 k cs → Sl (w.setCell ⟨g, 0, none⟩ u) B 1 A2 k cs := fun A2 k cs u h => by
    refine h.grown (by omega) (Lib.grownBy_setCell w g 0 u) (fun b off e hk e2 => ?_)
    obtain ⟨b', off', e', hb', _⟩ := h.2 hk
    rw [e] at e'
    cases e'
    have := Option.some.inj e2
    omega
  have KEEP := Lib.hid keep
  have HDL := Lib.hid hdl
  have hfin : ∀ (A' : Option Addr) (c' : Nat), Sl w B 1 A' (m - n) (bts (l.drop n)) → m - n ≤ c' → c' ≤ maxLen → (A' = none → c' = 0) → RsR (w.setCell ⟨g, 0, none⟩ (.slice A' (m - n : Nat) c')) B g (l.drop n) false := fun A' c' h h1 h2 h3 => by
    refine ⟨A', c', ?_, by rw [hdl]; exact h1, h2, by rw [hdl]; exact keep _ _ _ _ h, h3, hB⟩
    have := hb.set_ 0 (.slice A' (m - n : Nat) c')
    rw [hdl]
    exact this
  have HF := Lib.hid hfin
  have hmore : ∀ (A2 : Option Addr) (cs : List Value) (u : Value), Sl w B 1 A2 n cs → Sl (w.setCell ⟨g, 0, none⟩ u) (w.setCell ⟨g, 0, none⟩ u).heap.size 1 A2 n cs := fun A2 cs u h => (keep A2 n cs u h).more (by simp [World.setCell]; omega)
  have HMO := Lib.hid hmore
  clear hb hs hm keep hdl hfin hmore
  cases A with
  | none =>
    obtain rfl := hz rfl
    obtain rfl : m = 0 := by omega
    obtain rfl : n = 0 := by omega
    go_enter Tryd.func41, Tryd.ntmps41
    go_wp2_with fail
    go_ret
    first
      | refine ⟨none, 0, rfl, HC.out, Sl.nil _ _ _ _, ?_, Lib.grownBy_setCell _ _ _ _⟩
      | refine ⟨none, 0, rfl, Nat.le_refl _, HC.out, Sl.nil _ _ _ _, ?_, Lib.grownBy_setCell _ _ _ _⟩
    exact HF.out none 0 (by have := HS.out; rw [HM.out] at this; rw [List.drop_zero]; exact this) (Nat.le_refl _) HC.out (fun _ => rfl)
  | some a =>
    go_enter Tryd.func41, Tryd.ntmps41
    go_wp2_with fail
    · have hcn : c = n := h
      subst hcn
      go_ret
      refine ⟨some a, c, rfl, by omega, HC.out, HMO.out _ _ _ HT.out, ?_, Lib.grownBy_setCell _ _ _ _⟩
      have hd := HD.out
      rw [if_pos rfl] at hd
      exact HF.out (some a) 0 hd (by omega) (by unfold maxLen; omega) (fun e => by cases e)
    · have hcn : ¬ c = n := h
      go_ret
      refine ⟨some a, c, rfl, by omega, HC.out, HMO.out _ _ _ HT.out, ?_, Lib.grownBy_setCell _ _ _ _⟩
      have hd := HD.out
      rw [if_neg hcn] at hd
      exact HF.out (some (a.add n)) (c - n) hd (by omega) (by unfold maxLen; omega) (fun e => by cases e)

theorem rtake_any (B g : Nat) (s : Option (List UInt8)) (n : Nat) (ni : Int) (hni : ni = n) (w : World) (h : RfS w B g s) (hn : n ≤ 4096) :
    Calls Tryd.prog 41 #[.pointer (some ⟨g, 0, none⟩), .int .i64 ni] w fun e w' => ∃ A c, e = .returned (.slice A n c) ∧ n ≤ c ∧ c ≤ maxLen ∧ Sl w' w'.heap.size 1 A n (bts (tk n s).1) ∧ RfS w' B g (tk n s).2 ∧ w.grownBy w' (some g) := by
  by_cases hb : ∀ l, s = some l → l.length < n
  · have e : tk n s = (List.replicate n 0, none) := by
      cases s with
      | none => rfl
      | some l => have := hb l rfl; simp only [tk]; rw [if_neg (by omega)]
    rw [e]
    exact rtake_bad B g s n ni hni w h hn hb
  · cases s with
    | none => exact absurd (fun l e => by cases e) hb
    | some l =>
      have hnl : n ≤ l.length := by
        rcases Nat.lt_or_ge l.length n with h' | h'
        · exact absurd (fun l' e => by cases e; exact h') hb
        · exact h'
      have e : tk n (some l) = (l.take n, some (l.drop n)) := if_pos hnl
      rw [e]
      exact rtake_ok B g l n ni hni w h hnl

set_option maxRecDepth 100000 in
set_option maxHeartbeats 2000000 in
theorem rWord_any (B g : Nat) (s : Option (List UInt8)) (w : World) (h : RfS w B g s) :
    Calls Tryd.prog 24 #[.pointer (some ⟨g, 0, none⟩)] w (MR w B g (rstep wordR (.int .u64 0) s)) := by
  rw [← tk_word]
  have HT := Lib.hid (rtake_any B g s 8 8 rfl w h (by decide))
  have HL := Lib.hid (tk_len 8 s)
  obtain ⟨⟨xs, s'⟩, hxs⟩ : ∃ r, tk 8 s = r := ⟨_, rfl⟩
  rw [hxs] at HT HL ⊢
  simp only at HT HL
  clear h hxs
  go_enter Tryd.func24, Tryd.ntmps24
  go_wp2_with fail
  with_reducible refine HT.out.mono ?_
  rintro e w1 ⟨A, c, rfl, hsc, hcm, hsl, hR, hg⟩
  have HR := Lib.hid hR
  have HG := Lib.hid hg
  have HS := Lib.hid hsl
  unfold maxLen at hcm
  clear hR hg hsl HT
  go_wp2_with fail
  go_loopw [4, 5] (fun n i wr => ∃ (k : Nat), k ≤ 8 ∧ i = .int .i64 k ∧ n = .int .u64 (beN (xs.take k) : Nat) ∧ wr = w1) (fun _ i _ => 8 - (intOf i).toNat)
  case atStart => exact ⟨0, by omega, rfl, rfl, rfl⟩
  case round =>
    obtain ⟨k, hk, rfl, rfl, rfl⟩ := hrel
    have hb := beN_lt xs k (by rw [HL.out]; omega)
    by_cases hlt : k < 8
    · have hlt' : (k : Int) < 8 := by omega
      obtain ⟨c', hc⟩ : ∃ c', xs[k]? = some c' := ⟨_, List.getElem?_eq_getElem (by rw [HL.out]; omega)⟩
      obtain ⟨ba, oa, u, rfl, hba, hcell, hu⟩ := HS.out.one hlt
      rw [bts_at hc] at hu
      obtain rfl := Option.some.inj hu
      have hN : beN (xs.take k) < 72057594037927936 := Nat.lt_of_lt_of_le hb (by
        have : (256 : Nat) ^ k ≤ 256 ^ 7 := Nat.pow_le_pow_right (by decide) (by omega)
        exact this)
      have hcb := c'.toNat_lt
      have HQ := Lib.hid (show beN (xs.take (k + 1)) = beN (xs.take k) * 256 + c'.toNat by rw [take_at hc, beN_snoc])
      obtain ⟨N, hNe⟩ : ∃ N, beN (xs.take k) = N := ⟨_, rfl⟩
      obtain ⟨x, hx⟩ : ∃ x, c'.toNat = x := ⟨_, rfl⟩
      rw [hNe] at hN HQ ⊢
      rw [hx] at hcell hcb HQ
      have hy1 : (N : Int) < 72057594037927936 := by omega
      have hy2 : (x : Int) < 256 := by omega
      clear hNe hx hc hb hu
      go_wp2_with fail
      go_roundw
      case rel => exact ⟨k + 1, by omega, by go_num, by rw [HQ.out]; first | (congr 1; done) | (congr 1; omega), trivial⟩
      case measure => simp [intOf]; omega
    · obtain rfl : k = 8 := by omega
      have HTK : Hid (xs.take 8 = xs) := Lib.hid (List.take_of_length_le (by rw [HL.out]; exact Nat.le_refl _))
      rw [HTK.out]
      go_wp2_with fail
      go_ret
      exact ⟨rfl, HR.out, HG.out⟩

theorem rNumber_any (B g : Nat) (s : Option (List UInt8)) (w : World) (h : RfS w B g s) :
    Calls Tryd.prog 22 #[.pointer (some ⟨g, 0, none⟩)] w (MR w B g (numV (rstep wordR (.int .u64 0) s).1, (rstep wordR (.int .u64 0) s).2)) := by
  obtain ⟨x, hx, hx0, hx1⟩ := rstep_word s
  have HW := Lib.hid (rWord_any B g s w h)
  obtain ⟨⟨v, s'⟩, hr⟩ : ∃ r, rstep wordR (.int .u64 0) s = r := ⟨_, rfl⟩
  rw [hr] at HW hx ⊢
  simp only at hx
  subst hx
  clear h hr
  go_enter Tryd.func22, Tryd.ntmps22
  go_wp2_with fail
  with_reducible refine HW.out.mono ?_
  rintro e w1 ⟨rfl, hR, hg⟩
  go_wp2_with fail
  go_ret
  exact ⟨by simp only [numV]; rw [← wrap64_eq]; rfl, hR, hg⟩

set_option maxHeartbeats 2000000 in
theorem rCount_any (B g : Nat) (m : Int) (s : Option (List UInt8)) (w : World) (h : RfS w B g s) :
    Calls Tryd.prog 30 #[.pointer (some ⟨g, 0, none⟩), .int .i64 m] w (MR w B g (rstep (countR m) (.int .i64 0) s)) := by
  have HW := Lib.hid (rNumber_any B g s w h)
  obtain ⟨x, s', hr1, hr2⟩ : ∃ x s', (numV (rstep wordR (.int .u64 0) s).1, (rstep wordR (.int .u64 0) s).2) = (.int .i64 x, s') ∧ ((¬ (x < 0 ∨ m < x) ∧ rstep (countR m) (.int .i64 0) s = (.int .i64 x, s')) ∨ ((x < 0 ∨ m < x) ∧ rstep (countR m) (.int .i64 0) s = (.int .i64 0, none)) ∨ (x = 0 ∧ s' = none ∧ rstep (countR m) (.int .i64 0) s = (.int .i64 0, none))) := by
    cases s with
    | none => exact ⟨0, none, rfl, .inr (.inr ⟨rfl, rfl, rfl⟩)⟩
    | some l =>
      by_cases h8 : 8 ≤ l.length
      · refine ⟨IntKind.i64.wrap (beN (l.take 8) : Nat), some (l.drop 8), by simp [rstep, wordR, h8, numV], ?_⟩
        by_cases hc : 0 ≤ IntKind.i64.wrap (beN (l.take 8) : Nat) ∧ IntKind.i64.wrap (beN (l.take 8) : Nat) ≤ m
        · exact .inl ⟨by omega, by simp only [rstep, countR]; rw [if_pos ⟨h8, hc.1, hc.2⟩]⟩
        · exact .inr (.inl ⟨by omega, by simp only [rstep, countR]; rw [if_neg (fun h => hc ⟨h.2.1, h.2.2⟩)]⟩)
      · exact ⟨0, none, by simp [rstep, wordR, h8, numV]; rfl, .inr (.inr ⟨rfl, rfl, by simp [rstep, countR, h8]⟩)⟩
  rw [hr1] at HW
  have hstore : ∀ W, RfS W B g s' → RfS (W.setCell ⟨g, 1, none⟩ (.bool true)) B g none ∧ W.frozen? ⟨g, 1, none⟩ = false ∧ ∃ b, W.cell? ⟨g, 1, none⟩ = some (.bool b) := by
    intro W hW
    cases s' with
    | none =>
      obtain ⟨l, hl⟩ := hW
      obtain ⟨A, c, hk, _⟩ := id hl
      exact ⟨⟨l, hl.brk⟩, hk.frozen 1, true, hk.cell 1⟩
    | some l =>
      obtain ⟨A, c, hk, _⟩ := id hW
      exact ⟨⟨l, RsR.brk hW⟩, hk.frozen 1, false, hk.cell 1⟩
  have HST := Lib.hid hstore
  clear h hr1 hstore
  rcases hr2 with ⟨hx, he⟩ | ⟨hx, he⟩ | ⟨rfl, rfl, he⟩
  · rw [he]
    have e1 : decide (x < 0) = false := by simp; omega
    have e2 : decide (m < x) = false := by simp; omega
    clear hx he
    go_enter Tryd.func30, Tryd.ntmps30
    go_wp2_with fail
    with_reducible refine HW.out.mono ?_
    rintro e w1 ⟨rfl, hR, hg⟩
    go_wp2_with fail
    go_ret
    exact ⟨rfl, hR, hg⟩
  · rw [he]
    by_cases hx0 : x < 0
    · have e1 : decide (x < 0) = true := by simp; omega
      clear hx he hx0
      go_enter Tryd.func30, Tryd.ntmps30
      go_wp2_with fail
      with_reducible refine HW.out.mono ?_
      rintro e w1 ⟨rfl, hR, hg⟩
      obtain ⟨hB, hf1, b, hc1⟩ := HST.out w1 hR
      go_wp2_with fail
      go_ret
      exact ⟨rfl, hB, Lib.grownBy_trans hg (Lib.grownBy_setCell _ _ _ _)⟩
    · have e1 : decide (x < 0) = false := by simp; omega
      have e2 : decide (m < x) = true := by simp; omega
      clear hx he hx0
      go_enter Tryd.func30, Tryd.ntmps30
      go_wp2_with fail
      with_reducible refine HW.out.mono ?_
      rintro e w1 ⟨rfl, hR, hg⟩
      obtain ⟨hB, hf1, b, hc1⟩ := HST.out w1 hR
      go_wp2_with fail
      go_ret
      exact ⟨rfl, hB, Lib.grownBy_trans hg (Lib.grownBy_setCell _ _ _ _)⟩
  · rw [he]
    by_cases hm : m < 0
    · have e2 : decide (m < 0) = true := by simp; omega
      clear he hm
      go_enter Tryd.func30, Tryd.ntmps30
      go_wp2_with fail
      with_reducible refine HW.out.mono ?_
      rintro e w1 ⟨rfl, hR, hg⟩
      obtain ⟨hB, hf1, b, hc1⟩ := HST.out w1 hR
      go_wp2_with fail
      go_ret
      exact ⟨rfl, hB, Lib.grownBy_trans hg (Lib.grownBy_setCell _ _ _ _)⟩
    · have e2 : decide (m < 0) = false := by simp; omega
      clear he hm
      go_enter Tryd.func30, Tryd.ntmps30
      go_wp2_with fail
      with_reducible refine HW.out.mono ?_
      rintro e w1 ⟨rfl, hR, hg⟩
      go_wp2_with fail
      go_ret
      exact ⟨rfl, hR, hg⟩

set_option maxHeartbeats 1000000 in
theorem rEnd_any (B g : Nat) (s : Option (List UInt8)) (w : World) (h : RfS w B g s) :
    Calls Tryd.prog 32 #[.pointer (some ⟨g, 0, none⟩)] w fun e w' => e = .returned (.int .i64 (endF s)) ∧ Below w.heap.size w w' := by
  cases s with
  | none =>
    obtain ⟨l, A, c, hk, _⟩ := h
    have c1 : w.cell? ⟨g, 1, none⟩ = some (.bool true) := hk.cell 1
    clear hk
    go_enter Tryd.func32, Tryd.ntmps32
    go_wp2_with fail
    go_ret
    exact ⟨rfl, Below.refl _ _⟩
  | some l =>
    obtain ⟨A, c, hk, _⟩ := h
    obtain ⟨m, hm⟩ : ∃ m, l.length = m := ⟨_, rfl⟩
    rw [hm] at hk
    have c0 : w.cell? ⟨g, 0, none⟩ = some (.slice A m c) := hk.cell 0
    have c1 : w.cell? ⟨g, 1, none⟩ = some (.bool false) := hk.cell 1
    clear hk
    cases l with
    | nil =>
      obtain rfl : m = 0 := hm.symm
      go_enter Tryd.func32, Tryd.ntmps32
      go_wp2_with fail
      go_ret
      exact ⟨rfl, Below.refl _ _⟩
    | cons x l =>
      have e1 : 0 < m := by simp at hm; omega
      clear hm
      go_enter Tryd.func32, Tryd.ntmps32
      go_wp2_with fail
      go_ret
      exact ⟨rfl, Below.refl _ _⟩

set_option maxRecDepth 100000 in
set_option maxHeartbeats 2000000 in
theorem rHash_any (B g : Nat) (s : Option (List UInt8)) (w : World) (h : RfS w B g s) :
    Calls Tryd.prog 26 #[.pointer (some ⟨g, 0, none⟩)] w (MR w B g (rstep hashR (.agg (bts zB).toArray) s)) := by
  rw [← tk_hash]
  have hzh := zero_hash
  have HL := Lib.hid (tk_len 32 s)
  have L0 : Hid (Below w.heap.size w (w.alloc (.cells (bts zB).toArray 29))) := Lib.hid (alc_bel w _ _)
  have K0 := Lib.hid (Bk.new w 29 (bts zB).toArray)
  have hg0 := h.lt
  have H0 := h.old L0.out
  obtain ⟨r0, hr0⟩ : ∃ r0, w.heap.size = r0 := ⟨_, rfl⟩
  obtain ⟨w0, hw0⟩ : ∃ w0, w.alloc (.cells (bts zB).toArray 29) = w0 := ⟨_, rfl⟩
  have hz0 : w0.heap.size = r0 + 1 := by rw [← hw0, ← hr0]; simp
  rw [hw0] at H0 L0 K0
  rw [hr0] at K0 L0 hg0
  have HT := Lib.hid (rtake_any B g s 32 32 rfl w0 H0 (by decide))
  obtain ⟨⟨xs, s'⟩, hxs⟩ : ∃ r, tk 32 s = r := ⟨_, rfl⟩
  rw [hxs] at HT HL ⊢
  simp only at HT HL
  go_enter Tryd.func26, Tryd.ntmps26
  go_upto_region 1 with fail
  try rw [hw0, hr0]
  have HW0 := Lib.hid hr0
  have hBg := h.ge
  clear h hxs hw0 H0 hr0
  go_wp2_with fail
  with_reducible refine HT.out.mono ?_
  rintro e w1 ⟨A, c, rfl, hsc, hcm, hsl, hR, hg⟩
  have hz1 := hg.size
  have K1 := Lib.hid (K0.out.grown hg (by simp; omega))
  have HG := Lib.hid hg
  have L1 : Hid (Below w1.heap.size w1 (w1.alloc (.cells (bts zB).toArray 29))) := Lib.hid (alc_bel w1 _ _)
  have HB := Lib.hid (Bk.new w1 29 (bts zB).toArray)
  have HR := Lib.hid (hR.old L1.out)
  have HS := Lib.hid (hsl.below L1.out)
  unfold maxLen at hcm
  obtain ⟨b, hb⟩ : ∃ b, w1.heap.size = b := ⟨_, rfl⟩
  have hRl := hR.lt
  go_upto_region 3 with fail
  obtain ⟨w2, hw2⟩ : ∃ w2, w1.alloc (.cells (bts zB).toArray 29) = w2 := ⟨_, rfl⟩
  have hz2 : w2.heap.size = b + 1 := by rw [← hw2, ← hb]; simp
  have G2 : Hid (w0.grownBy w2 (some g)) := Lib.hid (by rw [← hw2]; exact Lib.grownBy_trans HG.out (below_grown L1.out _))
  have K2 : Hid (Bk w2 r0 29 (bts zB).toArray) := Lib.hid (by rw [← hw2]; exact K1.out.alloc _)
  rw [hw2] at HB HR HS L1
  try rw [hw2]
  rw [hb] at HB HS hRl
  try rw [hb]
  have hrb : r0 < b := by rw [hz0] at hz1; omega
  clear hR hg hsl HT hw2 hb L1 HG K1 K0 hz1
  go_wp2_with fail
  go_loopw [5] (fun i wr => ∃ (k : Nat), k ≤ 32 ∧ i = .int .i64 k ∧ Bk wr b 29 (bts (xs.take k ++ List.replicate (32 - k) 0)).toArray ∧ Moves (fun j _ => j = b) w2 wr) (fun i _ => 32 - (intOf i).toNat)
  case atStart => exact ⟨0, by omega, rfl, HB.out, Moves.refl _ _⟩
  case round =>
    obtain ⟨k, hk, rfl, hbk, hmv⟩ := hrel
    have HK := Lib.hid hbk
    have HM := Lib.hid hmv
    by_cases hlt : k < 32
    · have hlt' : (k : Int) < 32 := by omega
      obtain ⟨c', hc⟩ : ∃ c', xs[k]? = some c' := ⟨_, List.getElem?_eq_getElem (by rw [HL.out]; omega)⟩
      obtain ⟨ba, oa, u, rfl, hba, hcell0, hu⟩ := HS.out.one hlt
      rw [bts_at hc] at hu
      obtain rfl := Option.some.inj hu
      have hcell := hmv.cell (p := ⟨ba, oa + k, none⟩) hcell0 (fun o _ => by show ¬ ba = b; omega)
      have hold := hbk.cell k
      have hfr := hbk.frozen k
      have hlen : (bts (xs.take k ++ List.replicate (32 - k) 0)).length = 32 := by rw [bts_len]; simp [HL.out]; omega
      rw [List.getElem?_toArray, List.getElem?_eq_getElem (by omega)] at hold
      obtain ⟨v0, hv0⟩ : ∃ v0, (bts (xs.take k ++ List.replicate (32 - k) 0))[k]'(by omega) = v0 := ⟨_, rfl⟩
      rw [hv0] at hold
      have hset := hbk.set_ k (.int .u8 (c'.toNat : Int))
      have hnew : ((bts (xs.take k ++ List.replicate (32 - k) 0)).toArray).setIfInBounds k (.int .u8 (c'.toNat : Int)) = (bts (xs.take (k + 1) ++ List.replicate (32 - (k + 1)) 0)).toArray := by
        rw [List.setIfInBounds_toArray]
        congr 1
        rw [take_at hc, bts_app, bts_app, bts_app, List.set_append_right _ _ (by rw [bts_len, List.length_take, HL.out]; omega), List.append_assoc]
        congr 1
        rw [bts_len, List.length_take, HL.out, show k - min k 32 = 0 by omega, show 32 - k = (32 - (k + 1)) + 1 by omega, List.replicate_succ]
        rfl
      rw [hnew] at hset
      have HSET := Lib.hid hset
      have HM2 := Lib.hid (hmv.trans_ (Moves.setCell (X := fun j _ => j = b) wr ⟨b, k, none⟩ (.int .u8 (c'.toNat : Int)) (fun _ _ => rfl)) (fun _ _ _ h => h))
      clear hbk hmv hcell0 hv0 hlen hset hnew hc hu
      go_wp2_with fail
      go_roundw
      case rel => exact ⟨k + 1, by omega, by go_num, HSET.out, HM2.out⟩
      case measure => simp [intOf]; omega
    · obtain rfl : k = 32 := by omega
      have e : xs.take 32 ++ List.replicate (32 - 32) 0 = xs := by rw [Nat.sub_self, List.replicate_zero, List.append_nil]; exact List.take_of_length_le (by rw [HL.out]; exact Nat.le_refl _)
      rw [e] at hbk HK
      have hall := hbk.whole
      have hxl : (bts xs).length = 32 := by rw [bts_len, HL.out]
      have K3 := Lib.hid (hmv.bk K2.out (by omega))
      have HZ := hmv.size
      clear hbk hmv e
      go_wp2_with (first
        | (refine wpList_val (by rfl) (run_load_seg 29 _ (by with_reducible rfl) b 0 (by rfl) (bts xs) hall 32 hxl _ Tryd.underlying29 (by rfl) hhi) ?_)
        | (refine wpList_puts (by rfl) 29 _ _ (by with_reducible rfl) r0 0 (by rfl) (bts xs) (by rfl) 29 (bts zB) (by exact K3.out) 32 hxl (by rw [bts_len]; decide) hhi bts_all ?_; intro w3 hb_ hm_ hz_; have HB3 := Lib.hid hb_; have HM3 := Lib.hid hm_; clear hb_ hm_ hz_))
      have k3 : Bk w3 r0 29 (bts xs).toArray := by have := HB3.out; rwa [put_whole (by rw [hxl]; rfl)] at this
      have hm3 : wr.grownBy w3 (some r0) := moves_grown HM3.out
      have hm2 : w2.grownBy wr (some b) := moves_grown HM.out
      refine bodyPost_ret (results_cell_row rfl _ _ r0 29 (bts xs).toArray (0, 0) _ (by rfl) k3 Tryd.underlying29 rfl (by rw [hhi]; simp [hxl])) rfl ⟨rfl, ?_, ?_⟩
      · exact (HR.out.move hm2 (by simp; omega) (by intro x hx; simp; omega)).move hm3 (by simp; omega) (by intro x hx; simp; omega)
      · have hw := HW0.out
        exact grown_two (Below.refl _ _) (grown_two (by rw [hw]; exact L0.out) G2.out hm2 (by omega)) hm3 (by omega)

theorem beN_two (x y : UInt8) : beN [x, y] = x.toNat * 256 + y.toNat := by simp [beN]
theorem tk_text (s : Option (List UInt8)) : rstep textR (.string ⟨#[]⟩) s = if 4096 < beN (tk 2 s).1 then (.string ⟨#[]⟩, none) else match (tk (beN (tk 2 s).1) (tk 2 s).2).2 with | some l' => (.string (strOf (tk (beN (tk 2 s).1) (tk 2 s).2).1), some l') | none => (.string ⟨#[]⟩, none) := by
  have h0 : beN (List.replicate 2 0) = 0 := by decide
  cases s with
  | none =>
    have e1 : tk 2 none = (List.replicate 2 0, none) := rfl
    rw [e1]
    simp only [h0]
    rfl
  | some l =>
    by_cases h2 : 2 ≤ l.length
    · have e1 : (tk 2 (some l)) = (l.take 2, some (l.drop 2)) := if_pos h2
      simp only [rstep, textR]
      rw [e1]
      simp only
      obtain ⟨n, hn⟩ : ∃ n, beN (l.take 2) = n := ⟨_, rfl⟩
      obtain ⟨xs, hxs⟩ : ∃ xs, l.drop 2 = xs := ⟨_, rfl⟩
      rw [hn, hxs]
      by_cases h4 : n ≤ 4096
      · rw [if_neg (show ¬ 4096 < n by omega)]
        by_cases hx : n ≤ xs.length
        · have e2 : (tk n (some xs)) = (xs.take n, some (xs.drop n)) := if_pos hx
          rw [if_pos ⟨h2, h4, hx⟩, e2]
        · have e2 : (tk n (some xs)) = (List.replicate n 0, none) := if_neg hx
          rw [if_neg (fun h => hx h.2.2), e2]
      · rw [if_pos (show 4096 < n by omega), if_neg (fun h => h4 h.2.1)]
    · have e1 : (tk 2 (some l)) = (List.replicate 2 0, none) := if_neg h2
      simp only [rstep, textR]
      rw [e1, if_neg (fun h => h2 h.1)]
      simp [h0, tk]

theorem mr_of {w w' : World} {B g : Nat} {R R' : Value × Option (List UInt8)} {e : Ending} (h : MR w B g R' e w') (he : R = R') : MR w B g R e w' := he ▸ h
theorem RfS.flag {w : World} {B g : Nat} {s : Option (List UInt8)} (h : RfS w B g s) : w.cell? ⟨g, 1, none⟩ = some (.bool (s == none)) ∧ w.frozen? ⟨g, 1, none⟩ = false ∧ RfS (w.setCell ⟨g, 1, none⟩ (.bool true)) B g none := by
  cases s with
  | none =>
    obtain ⟨l, hl⟩ := h
    obtain ⟨A, c, hk, _⟩ := id hl
    exact ⟨hk.cell 1, hk.frozen 1, l, hl.brk⟩
  | some l =>
    obtain ⟨A, c, hk, _⟩ := id h
    exact ⟨hk.cell 1, hk.frozen 1, l, RsR.brk h⟩

set_option maxRecDepth 100000 in
set_option maxHeartbeats 2000000 in
theorem rText_any (B g : Nat) (s : Option (List UInt8)) (w : World) (h : RfS w B g s) :
    Calls Tryd.prog 28 #[.pointer (some ⟨g, 0, none⟩)] w (MR w B g (rstep textR (.string ⟨#[]⟩) s)) := by
  rw [tk_text]
  have HT := Lib.hid (rtake_any B g s 2 2 rfl w h (by decide))
  have hL := tk_len 2 s
  obtain ⟨⟨xs, s1⟩, hxs⟩ : ∃ r, tk 2 s = r := ⟨_, rfl⟩
  rw [hxs] at HT hL ⊢
  simp only at HT hL ⊢
  obtain ⟨x, y, rfl⟩ : ∃ x y, xs = [x, y] := by
    match xs, hL with
    | [x, y], _ => exact ⟨x, y, rfl⟩
  have hxb := x.toNat_lt
  have hyb := y.toNat_lt
  obtain ⟨n, hn⟩ : ∃ n, beN [x, y] = n := ⟨_, rfl⟩
  have hn2 : (x.toNat : Int) * 256 + (y.toNat : Int) = n := by rw [← hn, beN_two]; push_cast; rfl
  have HN2 := Lib.hid hn2
  obtain ⟨xi, hxi⟩ : ∃ xi : Int, (x.toNat : Int) = xi := ⟨_, rfl⟩
  obtain ⟨yi, hyi⟩ : ∃ yi : Int, (y.toNat : Int) = yi := ⟨_, rfl⟩
  rw [hxi, hyi] at hn2
  have hb1 : 0 ≤ xi ∧ xi < 256 := by omega
  have hb2 : 0 ≤ yi ∧ yi < 256 := by omega
  have e1 : IntKind.i64.wrap (xi * 256) = xi * 256 := by rw [IntKind.wrap_i64]; omega
  have e2 : IntKind.i64.wrap (xi * 256 + yi) = n := by rw [IntKind.wrap_i64]; omega
  have hnb : n < 65536 := by omega
  have e3 : IntKind.i64.wrap xi = xi := by rw [IntKind.wrap_i64]; omega
  have e4 : IntKind.i64.wrap yi = yi := by rw [IntKind.wrap_i64]; omega
  have E12 := Lib.hid (And.intro e1 (And.intro e2 (And.intro e3 e4)))
  rw [hn]
  obtain ⟨R, hRe⟩ : ∃ R, (if 4096 < n then (Value.string ⟨#[]⟩, none) else match (tk n s1).2 with | some l' => (.string (strOf (tk n s1).1), some l') | none => (.string ⟨#[]⟩, none)) = R := ⟨_, rfl⟩
  rw [hRe]
  have HRE := Lib.hid hRe
  clear h hxs hn hn2 e1 e2 e3 e4 hRe
  go_enter Tryd.func28, Tryd.ntmps28
  go_wp2_with fail
  with_reducible refine HT.out.mono ?_
  rintro e w1 ⟨A, c, rfl, hsc, hcm, hsl, hR, hg⟩
  obtain ⟨ba, oa, rfl, hba, hcs⟩ := hsl.2 (by decide)
  have hc0 : w1.cell? ⟨ba, oa, none⟩ = some (.int .u8 xi) := by have := hcs 0 (.int .u8 (x.toNat : Int)) rfl; rw [hxi] at this; exact this
  have hc1 : w1.cell? ⟨ba, oa + 1, none⟩ = some (.int .u8 yi) := by have := hcs 1 (.int .u8 (y.toNat : Int)) rfl; rw [hyi] at this; exact this
  have HR := Lib.hid hR
  have HG := Lib.hid hg
  unfold maxLen at hcm
  clear hR hg hsl HT hcs HN2
  go_upto_region 2 with fail
  obtain ⟨e1, e2, e3, e4⟩ := E12.out
  have hcc : (2 : Int) ≤ (c : Int) := by omega
  go_quiet (fail)
  have HB2 : Hid (Below w1.heap.size w1 (w1.drewN nq)) := Lib.hid (by (first | assumption | (repeat (first | exact Below.refl _ _ | assumption | apply Below.drew | apply below_drewN | (refine Below.setCell ?_ (by (try simp) <;> omega) _) | (refine Below.alloc ?_ (by (try simp) <;> omega) _)))))
  obtain ⟨w2, hw2⟩ : ∃ w2, w1.drewN nq = w2 := ⟨_, rfl⟩
  rw [hw2] at HB2 ⊢
  have HR2 := Lib.hid (HR.out.old HB2.out)
  have HG2 := Lib.hid (Lib.grownBy_trans HG.out (below_grown HB2.out (some g)))
  clear hw2 hc0 hc1 e1 e2 e3 e4 E12 hxi hyi hb1 hb2 HR HG HB2
  by_cases h4 : 4096 < n
  · have e4 : decide ((4096 : Int) < (n : Int)) = true := by simp; omega
    obtain ⟨hf1, hf2, hf3⟩ := HR2.out.flag
    have hre := HRE.out
    rw [if_pos h4] at hre
    have HRE2 := Lib.hid hre.symm
    have HF3 := Lib.hid hf3
    clear hf3 h4 hre HRE
    go_wp2_with fail
    go_ret
    exact mr_of ⟨rfl, HF3.out, Lib.grownBy_trans HG2.out (Lib.grownBy_setCell _ _ _ _)⟩ HRE2.out
  · have e4 : decide ((4096 : Int) < (n : Int)) = false := by simp; omega
    have hre := HRE.out
    rw [if_neg h4] at hre
    have HK := Lib.hid (rtake_any B g s1 n n rfl w2 HR2.out (by omega))
    have HLX := Lib.hid (tk_len n s1)
    obtain ⟨⟨ys, s2⟩, hys⟩ : ∃ r, tk n s1 = r := ⟨_, rfl⟩
    rw [hys] at HK HLX hre
    simp only at HK HLX hre
    have HRE2 := Lib.hid hre.symm
    clear hys hre HRE
    go_wp2_with fail
    with_reducible refine HK.out.mono ?_
    rintro e w3 ⟨A3, c3, rfl, hnc, hcm3, hsl3, hR3, hg3⟩
    have HG3 := Lib.hid (Lib.grownBy_trans HG2.out hg3)
    have HR3 := Lib.hid hR3
    have hcv := run_conv (P := Tryd.prog) (B := w3.heap.size) (w := w3) (dst := 9) Tryd.underlying26 Tryd.underlying5 Tryd.underlying9 (xs := ys) c3 (by rw [HLX.out]; exact hsl3)
    rw [HLX.out] at hcv
    obtain ⟨sx, hsx⟩ : ∃ sx, strOf ys = sx := ⟨_, rfl⟩
    rw [hsx] at hcv HRE2
    obtain ⟨hf1, hf2, hf3⟩ := hR3.flag
    clear hf3 hR3 hg3 hsl3 HK hsx
    cases s2 with
    | none =>
      go_wp2_with fail
      go_ret
      exact mr_of ⟨rfl, HR3.out, HG3.out⟩ HRE2.out
    | some l' =>
      go_wp2_with fail
      go_ret
      exact mr_of ⟨rfl, HR3.out, HG3.out⟩ HRE2.out
end Go.Proofs.YtclnpglnomfjkaaDoor

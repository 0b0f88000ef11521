/- What this text proves: what the law TapeSafe carries through its second loop, and what a loss of power leaves of it. The conditions are how the tape lies in memory. -/
import Derived.Test.YtfgjpmbbfilemaaTapeOps
namespace Go.Proofs.Ytfgjpmbbfilemaa
open Go.RowKit
set_option linter.unusedVariables false
set_option linter.unusedSimpArgs false

/-- What holds of the steps from the N-th on: they begin with what was safe, and are the beginning of what is now. -/
structure Held (N : Nat) (safe : List UInt8) (n : List UInt8 × Nat) (st : List (List UInt8 × Nat)) : Prop where
  len : N ≤ st.length
  now : safe <+: n.1 ∧ safe.length ≤ n.2
  mem : ∀ i s, N ≤ i + 1 → st[i]? = some s → safe <+: s.1 ∧ safe.length ≤ s.2 ∧ s.1 <+: n.1

theorem Held.step {N : Nat} {safe : List UInt8} {n : List UInt8 × Nat} {st : List (List UInt8 × Nat)} (h : Held N safe n st) (s : List UInt8 × Nat) (h1 : n.1 <+: s.1) (h2 : safe.length ≤ s.2) : Held N safe s (st ++ [s]) := by
  refine ⟨by simp; have := h.len; omega, ⟨h.now.1.trans h1, h2⟩, fun i t hi ht => ?_⟩
  by_cases hl : i < st.length
  · rw [List.getElem?_append_left hl] at ht
    obtain ⟨a, b, c⟩ := h.mem i t hi ht
    exact ⟨a, b, c.trans h1⟩
  · rw [List.getElem?_append_right (by omega)] at ht
    have : i - st.length = 0 := by
      rcases Nat.eq_zero_or_pos (i - st.length) with h | h
      · exact h
      · rw [List.getElem?_eq_none (by simp; omega)] at ht; cases ht
    rw [this] at ht
    simp at ht
    subst ht
    exact ⟨h.now.1.trans h1, h2, List.prefix_refl _⟩
theorem Held.first (n : List UInt8) (st : List (List UInt8 × Nat)) : Held (st.length + 1) n (n, n.length) (st ++ [(n, n.length)]) := by
  refine ⟨by simp, ⟨List.prefix_refl _, Nat.le_refl _⟩, fun i t hi ht => ?_⟩
  rw [List.getElem?_append_right (by omega)] at ht
  have : i - st.length = 0 := by
    rcases Nat.eq_zero_or_pos (i - st.length) with h | h
    · exact h
    · rw [List.getElem?_eq_none (by simp; omega)] at ht; cases ht
  rw [this] at ht
  simp at ht
  subst ht
  exact ⟨List.prefix_refl _, Nat.le_refl _, List.prefix_refl _⟩

theorem take_prefix {a b : List UInt8} (h : a <+: b) : b.take a.length = a := (List.prefix_iff_eq_take.1 h).symm

/-- What power leaves. -/
theorem Held.cut {N : Nat} {safe : List UInt8} {f n : List UInt8 × Nat} {st : List (List UInt8 × Nat)} (h : Held N safe n st) (hok : ∀ s ∈ st, okStep s) (hN : 1 ≤ N) (a : Nat) (ha : N ≤ a) (ha2 : a ≤ st.length) (t : Int) :
    (cutStep f st a t).2 = (cutStep f st a t).1.length ∧ safe <+: (cutStep f st a t).1 ∧ (cutStep f st a t).1 <+: n.1 := by
  have hp : pickI a (st.length + 1) = (a : Int) := by
    unfold pickI
    rw [if_neg (by omega)]
    exact Int.emod_eq_of_lt (by omega) (by omega)
  obtain ⟨k, rfl⟩ : ∃ k, a = k + 1 := ⟨a - 1, by omega⟩
  obtain ⟨s, hs⟩ : ∃ s, st[k]? = some s := ⟨_, List.getElem?_eq_getElem (by omega)⟩
  obtain ⟨h1, h2, h3⟩ := h.mem k s (by omega) hs
  obtain ⟨k1, k2⟩ := hok s (List.mem_of_getElem? hs)
  have hb := pickI_bd t ((s.1.length : Int) - s.2 + 1) (by omega)
  have e : cutStep f st ((k + 1 : Nat) : Int) t = (s.1.take (s.2 + (pickI t ((s.1.length : Int) - s.2 + 1)).toNat), s.2 + (pickI t ((s.1.length : Int) - s.2 + 1)).toNat) := by
    unfold cutStep
    rw [hp, Int.toNat_natCast, List.getD_eq_getElem?_getD, List.getElem?_cons_succ, hs, Option.getD_some]
  rw [e]
  refine ⟨by simp; omega, ?_, (List.take_prefix _ _).trans h3⟩
  rw [List.prefix_take_iff]
  exact ⟨h1, by omega⟩

section
variable {w w' : World} {p : Nat} {sv v : Value} {f n : List UInt8 × Nat} {st : List (List UInt8 × Nat)} {cs : List Value}
/-- Bytes stay what a tape's method leaves. -/
theorem rd_stays (h : TapeAt w p sv f n st) (hm : Moves (TapeX p sv) w w') (hr : Rd 5 w v cs) : Rd 5 w' v cs := by
  obtain ⟨nb, fb, b1, _, _⟩ := h.bk
  obtain ⟨xs, o1, _⟩ := h.own
  refine hr.moves hm ?_
  rintro k cur _ hk (rfl | hk')
  · exact Bk.ne_ b1 hk (by decide) rfl
  · obtain ⟨_, _, cur', hc⟩ := own_cells o1 hk'.symm
    exact Bk.ne_ (g := k) hc hk (by decide) rfl
end

/-- What the second loop carries. -/
def SafeInv (w : World) (B p N M : Nat) (v : Value) (safe : List UInt8) (wr : World) : Prop :=
  ∃ sv n st, TapeAt wr p sv ([], 0) n st ∧ Kept B p sv ∧ st.length ≤ M ∧ Held N safe n st ∧ Rd 5 wr v (bts safe) ∧ Below B w wr

section
variable {w w1 w2 : World} {B p N M : Nat} {v : Value} {safe : List UInt8}
theorem SafeInv.below {C : Nat} (h : SafeInv w B p N M v safe w1) (hC : w1.heap.size ≤ C) (hB : B ≤ w.heap.size) (hb : Below C w1 w2) : SafeInv w B p N M v safe w2 := by
  obtain ⟨sv, n, st, a, b, c, d, e, f⟩ := h
  exact ⟨sv, n, st, a.below hb hC, b, c, d, e.below hb hC, f.trans (hb.mono (Nat.le_trans hB (Nat.le_trans f.size hC)))⟩
theorem SafeInv.more {M' : Nat} (h : SafeInv w B p N M v safe w1) (hM : M ≤ M') : SafeInv w B p N M' v safe w1 := by
  obtain ⟨sv, n, st, a, b, c, d, e, f⟩ := h
  exact ⟨sv, n, st, a, b, by omega, d, e, f⟩
theorem SafeInv.stays (h : SafeInv w B p N M v safe w1) : Below B w w1 := by
  obtain ⟨sv, n, st, a, b, c, d, e, f⟩ := h
  exact f
def SafePost (w : World) (B p N M : Nat) (v : Value) (safe : List UInt8) (e : Ending) (w' : World) : Prop := ∃ r, e = .returned (.int .i64 r) ∧ SafeInv w B p N M v safe w'

theorem inv_sync (h : SafeInv w B p N M v safe w1) (hB : B ≤ w.heap.size) (hM : M ≤ 100000) :
    Calls Try.prog 17 #[.pointer (some ⟨p, 0, none⟩)] w1 (SafePost w B p N (M + 1) v safe) := by
  obtain ⟨sv, n, st, a, b, c, d, e, f⟩ := h
  refine (sync_any p sv _ n st w1 a (by omega)).mono fun en w2 hd => ?_
  have hm : Moves (TapeX p sv) w1 w2 := by obtain ⟨_, _, _, hmv, _⟩ := hd; exact hmv
  obtain ⟨sv', rfl, t', k', b'⟩ := did_kept b (Nat.le_trans hB f.size) hd
  exact ⟨_, rfl, sv', _, _, t', k', by simp; omega, d.step _ (List.prefix_refl _) (d.now.1.length_le), rd_stays a hm e, f.trans b'⟩
theorem inv_append (A : Option Addr) (ys : List UInt8) (m cc : Nat) (hm : ys.length = m) (h : SafeInv w B p N M v safe w1) (hB : B ≤ w.heap.size) (hM : M ≤ 100000) (hs : Sl w1 w1.heap.size 1 A ys.length (bts ys)) (hl : ys.length ≤ maxLen) :
    Calls Try.prog 9 #[.pointer (some ⟨p, 0, none⟩), .slice A m cc] w1 (SafePost w B p N (M + 1) v safe) := by
  subst hm
  obtain ⟨sv, n, st, a, b, c, d, e, f⟩ := h
  by_cases hf : n.1.length + ys.length ≤ 1048576
  · refine (append_ok p sv _ n st A ys cc w1 a hf hs (by omega)).mono fun en w2 hd => ?_
    have hm : Moves (TapeX p sv) w1 w2 := by obtain ⟨_, _, _, hmv, _⟩ := hd; exact hmv
    obtain ⟨sv', rfl, t', k', b'⟩ := did_kept b (Nat.le_trans hB f.size) hd
    exact ⟨_, rfl, sv', _, _, t', k', by simp; omega, d.step _ (List.prefix_append _ _) d.now.2, rd_stays a hm e, f.trans b'⟩
  · refine (append_full p sv _ n st A ys.length cc w1 a (by omega) hl).mono fun en w2 hd => ?_
    obtain ⟨rfl, rfl⟩ := hd
    exact ⟨_, rfl, sv, n, st, a, b, by omega, d, e, f⟩
end
/-- The first k of what a slice reads as. -/
theorem rd_take {e : TypeId} {w : World} {A : Option Addr} {L c k : Nat} {xs : List UInt8} (h : Rd e w (.slice A L c) (bts xs)) (hk : k ≤ xs.length) : Sl w w.heap.size 1 A k (bts (xs.take k)) := by
  obtain ⟨A', c', hA, hr⟩ := h.take (k := k) (by rw [bts_len]; exact hk)
  injection hA with h1 h2 h3
  subst h1 h3
  obtain ⟨A2, c2, hv, _, _, hs⟩ := hr.sl
  rw [bts_take] at hv hs
  injection hv with g1 g2 g3
  subst g1
  rw [bts_len, List.length_take, Nat.min_eq_left hk] at hs
  exact hs
theorem CutPost.out {w w' : World} {c : List UInt8 × Nat} {e : Ending} (h : CutPost w c e w') :
    ∃ p', e = .returned (.pointer (some ⟨p', 0, none⟩)) ∧ TapeAt w' p' (.slice none 0 0) c c [] ∧ Below w.heap.size w w' ∧ w.heap.size ≤ p' ∧ p' < w'.heap.size := h
theorem drew_b {w w' : World} (h : Below w.drew.heap.size w.drew w') : Below w.heap.size w w' := Below.trans ((Below.refl _ _).drew) h
end Go.Proofs.Ytfgjpmbbfilemaa

/- What this text proves: the tape and the reference's tape side by side: what a call on the one leaves of the other. No program in sight. -/
import Derived.Test.YtfgjpmbbfilemaaTapeAlike
namespace Go.Proofs.Ytfgjpmbbfilemaa
open Go.RowKit
set_option linter.unusedVariables false
set_option linter.unusedSimpArgs false

/-- Both tapes, all their blocks at B or behind, the one the other's picture. -/
structure Both (w : World) (B p : Nat) (sv : Value) (m : Nat) (lv : Value) (f n : List UInt8 × Nat) (st : List (List UInt8 × Nat)) : Prop where
  t : TapeAt w p sv f n st
  r : RefAt w m lv (f :: st)
  last : (f :: st)[st.length]? = some n
  kt : Kept B p sv
  kr : Kept B m lv

theorem Both.below {w w' : World} {B C p m : Nat} {sv lv : Value} {f n : List UInt8 × Nat} {st : List (List UInt8 × Nat)} (h : Both w B p sv m lv f n st) (hb : Below C w w') (hC : w.heap.size ≤ C) : Both w' B p sv m lv f n st :=
  ⟨h.t.below hb hC, h.r.below hb hC, h.last, h.kt, h.kr⟩

/-- What a tape's method leaves of the reference. -/
theorem ref_stays {w w' : World} {p m : Nat} {sv lv : Value} {f n : List UInt8 × Nat} {st l : List (List UInt8 × Nat)} (t : TapeAt w p sv f n st) (r : RefAt w m lv l) (hm : Moves (TapeX p sv) w w') : RefAt w' m lv l := by
  obtain ⟨nb, fb, b1, _, _⟩ := t.bk
  obtain ⟨cs, o1, _⟩ := t.own
  obtain ⟨xs, q1, _⟩ := r.own
  have b2 := r.bk
  refine r.moves hm (fun o h => ?_) (fun k o hk h => ?_) (fun k cur _ hc h => ?_)
  · rcases h with h | h
    · subst h; exact Bk.ne_ b1 b2 (by decide) rfl
    · exact own_ne o1 b2 (by decide) h
  · obtain ⟨_, _, cur, hc⟩ := own_cells q1 hk
    rcases h with h | h
    · subst h; exact Bk.ne_ b1 hc (by decide) rfl
    · obtain ⟨_, _, cur', hc'⟩ := own_cells o1 h.symm
      exact Bk.ne_ (g := k) hc' hc (by decide) rfl
  · rcases h with h | h
    · subst h; exact Bk.ne_ b1 hc (by decide) rfl
    · obtain ⟨_, _, cur', hc'⟩ := own_cells o1 h.symm
      exact Bk.ne_ (g := k) hc' hc (by decide) rfl

/-- What a method of the reference leaves of the tape. -/
theorem tape_stays {w w' : World} {p m : Nat} {sv lv : Value} {f n : List UInt8 × Nat} {st l : List (List UInt8 × Nat)} (t : TapeAt w p sv f n st) (r : RefAt w m lv l) (hm : Moves (TapeX m lv) w w') : TapeAt w' p sv f n st := by
  obtain ⟨nb, fb, b1, _, _⟩ := t.bk
  obtain ⟨cs, o1, _⟩ := t.own
  obtain ⟨xs, q1, _⟩ := r.own
  have b2 := r.bk
  refine t.moves hm (fun o h => ?_) (fun k o hk h => ?_) (fun k cur _ hc h => ?_)
  · rcases h with h | h
    · subst h; exact Bk.ne_ b1 b2 (by decide) rfl
    · exact own_ne q1 b1 (by decide) h
  · obtain ⟨_, _, cur, hc⟩ := own_cells o1 hk
    rcases h with h | h
    · subst h; exact Bk.ne_ b2 hc (by decide) rfl
    · obtain ⟨_, _, cur', hc'⟩ := own_cells q1 h.symm
      exact Bk.ne_ (g := k) hc' hc (by decide) rfl
  · rcases h with h | h
    · subst h; exact Bk.ne_ b2 hc (by decide) rfl
    · obtain ⟨_, _, cur', hc'⟩ := own_cells q1 h.symm
      exact Bk.ne_ (g := k) hc' hc (by decide) rfl

theorem kept_moves {B : Nat} {w w' : World} {p : Nat} {sv : Value} (ho : Kept B p sv) (hB : B ≤ w.heap.size) (hm : Moves (TapeX p sv) w w') : Below B w w' := by
  refine hm.to_below hB ?_
  rintro k o (h | h)
  · rw [h]; exact ho.1
  · exact ho.2 k h.symm
theorem kept_next {B : Nat} {w : World} {p : Nat} {sv sv' : Value} (ho : Kept B p sv) (hB : B ≤ w.heap.size) (h : ∀ k, sv'.ownBlock = some k → sv.ownBlock = some k ∨ w.heap.size ≤ k) : Kept B p sv' := by
  refine ⟨ho.1, fun k hk => ?_⟩
  rcases h k hk with h | h
  · exact ho.2 k h
  · omega

/-- The tape's call first: the reference stays, and both keep to their blocks. -/
theorem both_first {w w' : World} {B p m : Nat} {sv lv : Value} {f n s : List UInt8 × Nat} {st : List (List UInt8 × Nat)} {r : Int} {e : Ending} (h : Both w B p sv m lv f n st) (hB : B ≤ w.heap.size) (hd : Did w p sv f s (st ++ [s]) r e w') :
    ∃ sv', e = .returned (.int .i64 r) ∧ TapeAt w' p sv' f s (st ++ [s]) ∧ RefAt w' m lv (f :: st) ∧ Kept B p sv' ∧ Below B w w' := by
  obtain ⟨sv', rfl, h1, h2, h3⟩ := hd
  exact ⟨sv', rfl, h1, ref_stays h.t h.r h2, kept_next h.kt hB h3, kept_moves h.kt hB h2⟩
/-- The reference's call then. -/
theorem both_then {w w' : World} {B p m : Nat} {sv lv : Value} {f s : List UInt8 × Nat} {st : List (List UInt8 × Nat)} {e : Ending} (t : TapeAt w p sv f s (st ++ [s])) (r : RefAt w m lv (f :: st)) (kt : Kept B p sv) (kr : Kept B m lv) (hB : B ≤ w.heap.size) (hd : RDid w m lv (f :: st) s e w') :
    ∃ lv', e = .returned (.int .i64 0) ∧ Both w' B p sv m lv' f s (st ++ [s]) ∧ Below B w w' := by
  obtain ⟨lv', rfl, h1, h2, h3⟩ := hd
  exact ⟨lv', rfl, ⟨tape_stays t r h2, by simpa using h1, by simp, kt, kept_next kr hB h3⟩, kept_moves kr hB h2⟩
end Go.Proofs.Ytfgjpmbbfilemaa

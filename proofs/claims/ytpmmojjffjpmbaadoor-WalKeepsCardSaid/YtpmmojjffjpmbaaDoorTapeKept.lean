/- What this text proves: what a tape's call leaves of a tape whose blocks all lie behind a place. The conditions are how the values lie in memory. -/
import Derived.Test.YtpmmojjffjpmbaaDoorProg
import Derived.Test.YtpmmojjffjpmbaaDoorTapeCut
namespace Go.Proofs.YtpmmojjffjpmbaaDoor
open Go.RowKit
set_option linter.unusedVariables false
set_option linter.unusedSimpArgs false

/-- A tape whose blocks all lie at B or behind. -/
def Kept (B p : Nat) (sv : Value) : Prop := B ≤ p ∧ ∀ k, sv.ownBlock = some k → B ≤ k
theorem did_kept {B : Nat} {w w' : World} {p : Nat} {sv : Value} {f s : List UInt8 × Nat} {st : List (List UInt8 × Nat)} {r : Int} {e : Ending} (ho : Kept B p sv) (hB : B ≤ w.heap.size) (h : Did w p sv f s st r e w') :
    ∃ sv', e = .returned (.int .i64 r) ∧ TapeAt w' p sv' f s st ∧ Kept B p sv' ∧ Below B w w' := by
  obtain ⟨sv', rfl, h1, h2, h3⟩ := h
  refine ⟨sv', rfl, h1, ⟨ho.1, fun k hk => ?_⟩, h2.to_below hB ?_⟩
  · rcases h3 k hk with h | h
    · exact ho.2 k h
    · omega
  · rintro k o (h | h)
    · rw [h]; exact ho.1
    · exact ho.2 k h.symm
/-- Append, the length apart. -/
theorem append_ok' (p : Nat) (sv : Value) (f n : List UInt8 × Nat) (st : List (List UInt8 × Nat)) (A' : Option Addr) (ys : List UInt8) (m c' : Nat) (w : World) (hM : ys.length = m) (h : TapeAt w p sv f n st) (hm : n.1.length + ys.length ≤ 1048576) (hs' : Sl w w.heap.size 1 A' ys.length (bts ys)) (hn : st.length ≤ 1000000) :
    Calls Tryd.prog 23 #[.pointer (some ⟨p, 0, none⟩), .slice A' m c'] w (Did w p sv f (n.1 ++ ys, n.2) (st ++ [(n.1 ++ ys, n.2)]) 0) := by
  subst hM
  exact append_ok p sv f n st A' ys c' w h hm hs' hn
end Go.Proofs.YtpmmojjffjpmbaaDoor

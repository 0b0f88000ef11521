/- What this text proves: the contract of a height's method now. The conditions are how the state lies in memory, and that hashes have 32 bytes. -/
import Derived.Test.YtlhnhdkbfkbafaaDoorRoundAgreed
namespace Go.Proofs.YtlhnhdkbfkbafaaDoor
open Go.RowKit
set_option linter.unusedVariables false
set_option linter.unusedSimpArgs false

def prevF (s : St) (i : In) (may : Bool) : St × Option Out := ({s with step := 2}, some ⟨2, i.round, if may && i.good then i.block else zeros, 0⟩)
def precF (s : St) (h : List UInt8) : St × Option Out := ({s with step := 3}, some ⟨3, s.round, h, 0⟩)
def agreedF (s : St) (i : In) : St × Option Out :=
  (if s.step = 2 then {s with valid := i.block, vr := i.round, locked := i.block, lr := i.round, step := 3} else {s with valid := i.block, vr := i.round}, if s.step = 2 then some ⟨3, s.round, i.block, 0⟩ else none)
def lateF (s : St) (i : In) : St × Option Out :=
  if s.step < 1 ∨ 3 < s.step then (s, none)
  else if i.kind = 7 ∧ s.waited < i.round then ({s with waited := i.round}, some ⟨6, i.round, zeros, 0⟩)
  else if i.kind = 12 ∧ i.round < 1048576 then (s, some ⟨7, i.round + 1, zeros, 0⟩)
  else (s, none)
def lockF (s : St) (i : In) : St × Option Out := if i.kind = 5 ∧ i.good = true ∧ i.block ≠ zeros ∧ s.vr < i.round then agreedF s i else lateF s i
def nowF (s : St) (i : In) : St × Option Out :=
  if s.step = 1 then
    if i.kind = 2 then prevF s i (decide (s.lr < 0) || i.block == s.locked)
    else if i.kind = 3 then if 0 ≤ i.valid ∧ i.valid < i.round then prevF s i (decide (s.lr ≤ i.valid) || i.block == s.locked) else lateF s i
    else if i.kind = 10 then prevF s i false
    else lateF s i
  else if s.step = 2 then
    if i.kind = 4 then if s.waits < i.round then ({s with waits := i.round}, some ⟨5, i.round, zeros, 0⟩) else lockF s i
    else if i.kind = 6 ∨ i.kind = 11 then precF s zeros
    else lockF s i
  else if s.step = 3 then lockF s i
  else lateF s i

/-- How a height and an input lie. -/
structure At (w : World) (gs gi : Nat) (s : St) (i : In) : Prop where
  S : Bk w gs 25 s.cells.toArray
  I : Bk w gi 27 i.cells.toArray
  N : w.rangeAt 0 0 (bts zeros)
theorem At.whole {w : World} {gs gi : Nat} {s : St} {i : In} (h : At w gs gi s i) : w.rangeAt gi 0 i.cells := h.I.seg 0 [] i.cells [] (by simp) rfl
theorem At.drew {w : World} {gs gi : Nat} {s : St} {i : In} (h : At w gs gi s i) : At w.drew gs gi s i := ⟨h.S.drew, h.I.drew, (World.rangeAt_drew _ _ _ _).2 h.N⟩

theorem At.set_waited {w : World} {gs gi : Nat} {s : St} {i : In} (h : At w gs gi s i) (hs : s.good) (hne : gi ≠ gs) (h0 : 0 < gs) (v : Int) : At (w.setCell ⟨gs, 101, none⟩ (.int .i64 v)) gs gi {s with waited := v} i :=
  ⟨Go.Proofs.YtlhnhdkbfkbafaaDoor.set_waited h.S hs v, h.I.far (p := ⟨gs, 101, none⟩) hne _, range_set_far h.N (by omega)⟩
theorem At.set_waits {w : World} {gs gi : Nat} {s : St} {i : In} (h : At w gs gi s i) (hs : s.good) (hne : gi ≠ gs) (h0 : 0 < gs) (v : Int) : At (w.setCell ⟨gs, 100, none⟩ (.int .i64 v)) gs gi {s with waits := v} i :=
  ⟨Go.Proofs.YtlhnhdkbfkbafaaDoor.set_waits h.S hs v, h.I.far (p := ⟨gs, 100, none⟩) hne _, range_set_far h.N (by omega)⟩
def ToldF (w : World) (gs : Nat) (r : St × Option Out) : Ending → World → Prop := Told w gs r.1 r.2

theorem toldF_of {w w' : World} {gs : Nat} {r : St × Option Out} {e : Ending} (r' : St × Option Out) (h : Told w gs r'.1 r'.2 e w') (he : r = r') : ToldF w gs r e w' := by
  subst he
  exact h

end Go.Proofs.YtlhnhdkbfkbafaaDoor

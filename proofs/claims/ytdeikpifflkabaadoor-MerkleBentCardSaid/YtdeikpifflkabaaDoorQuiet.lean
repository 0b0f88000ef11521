/- What this text proves: a law for a region that leaves its order open and whose operations read, or call functions that make memory but give one value in whatever world: one walk in the order of the text serves. The condition is the law's own premise. -/
import Derived.Test.YtdeikpifflkabaaDoorBase
import Derived.BigQuiet
namespace Go.Proofs.YtdeikpifflkabaaDoor
open Go.RowKit

/-- A world in which nothing that is in w has turned. -/
structure BW (w : World) where
  val : World
  below : Below w.heap.size w val
instance instBW (w : World) : Nonempty (BW w) := ⟨⟨w, Below.refl _ _⟩⟩

theorem wp_region_bw {P : Program} {id : Nat} {Q : Exit → Act → World → Prop} {a : Act} {w : World} {l : List Oper} (hm : P.follows .mixedOrders = true) (hB : Region.lexB .any l.toArray = true)
    (h : wpQuiet P l.toArray (fun W => ∃ x : BW w, W = x.val) (fun a' => ∀ w', (∃ x : BW w, w' = x.val) → Q .normal a' w') l a) : (Code.region id l.toArray true).wp P Q a w :=
  wp_region_quiet (C := fun W => ∃ x : BW w, W = x.val) hm hB ⟨⟨_, (Below.refl _ _).drew⟩, rfl⟩ (by simpa using h)

/-- A callee's contract there. -/
theorem quiet_bw {P : Program} {f : FuncId} {args : Array Value} {w : World} {v : Value} (x : BW w) (h : Calls P f args x.val fun e w' => e = .returned v ∧ Below x.val.heap.size x.val w') :
    Calls P f args x.val fun e w'' => e = .returned v ∧ ∃ y : BW w, w'' = y.val :=
  h.mono fun _ w' ⟨he, hb⟩ => ⟨he, ⟨w', step_b x.below hb⟩, rfl⟩
theorem BW.cell {w : World} (x : BW w) {p : Addr} {v : Value} (h : w.cell? p = some v) (hp : p.block < w.heap.size) : x.val.cell? p = some v := (x.below.cell hp).trans h
theorem BW.sl {w : World} (x : BW w) {B sz n : Nat} {A : Option Addr} {cs : List Value} (h : Sl w B sz A n cs) (hB : B ≤ w.heap.size) : Sl x.val x.val.heap.size sz A n cs :=
  (h.below (x.below.mono hB)).more (Nat.le_trans hB x.below.size)
end Go.Proofs.YtdeikpifflkabaaDoor

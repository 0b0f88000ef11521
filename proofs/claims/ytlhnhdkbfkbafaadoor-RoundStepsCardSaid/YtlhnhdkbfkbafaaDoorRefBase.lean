/- What this text proves: what the walks of the reference's Step lean on. The conditions are that hashes have 32 bytes. -/
import Derived.Test.YtlhnhdkbfkbafaaDoorRefVoted
import Derived.Test.YtlhnhdkbfkbafaaDoorRoundStep
namespace Go.Proofs.YtlhnhdkbfkbafaaDoor
open Go.RowKit
set_option linter.unusedVariables false
set_option linter.unusedSimpArgs false

theorem stays_rout (N : Nat) (oo : Option Out) : Remains fun v W => ROutAt W N v oo := fun _ _ _ h hb => h.below hb
theorem stays_tup (N : Nat) (c : List Value) (oo : Option Out) : Remains fun v W => ∃ u, v = .tuple #[.agg c.toArray, u] ∧ ROutAt W N u oo := fun _ _ _ ⟨u, h1, h2⟩ hb => ⟨u, h1, h2.below hb⟩
theorem rstep_end {w W w7 : World} {gr N : Nat} {s' : St} {oo : Option Out} {v : Value} {r : St × Option Out} (ho : ROutAt W N v oo) (hN : gr < N) (hw : w.heap.size ≤ gr) (hm : Moves (fun k _ => k = gr) W w7) (hB : Below w.heap.size w W) (he : r = (s', oo)) :
    RTold w r (.returned (.tuple #[.agg s'.cells.toArray, v])) w7 := by
  subst he
  exact ⟨v, rfl, (ho.moves hm hN).less (by omega), hB.trans (hm.to_below hB.size (fun k _ e => by omega))⟩
theorem stays_ptr (q : Value) : Remains fun v _ => v = q := fun _ _ _ h _ => h
theorem forall_nil {p : (Value → World → Prop) → Prop} : ∀ x ∈ ([] : List (Value → World → Prop)), p x := fun _ h => by cases h
theorem forall_cons {p : (Value → World → Prop) → Prop} {x : Value → World → Prop} {l : List (Value → World → Prop)} (h : p x) (hl : ∀ y ∈ l, p y) : ∀ y ∈ x :: l, p y := by
  intro y hy
  rcases List.mem_cons.1 hy with rfl | h'
  · exact h
  · exact hl y h'
end Go.Proofs.YtlhnhdkbfkbafaaDoor

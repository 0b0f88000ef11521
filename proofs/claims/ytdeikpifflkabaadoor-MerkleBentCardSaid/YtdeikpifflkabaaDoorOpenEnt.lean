/- What this text proves: how entries, a string and a hash that came in as arguments read. No condition. -/
import Derived.Test.YtdeikpifflkabaaDoorOpenRow
import Derived.Test.YtdeikpifflkabaaDoorMerPure
import Derived.ProofKit
import Derived.OpenShut
import Derived.ChangeOld
import Derived.Lib.SmallJoins
namespace Go.Proofs.YtdeikpifflkabaaDoor
open Go.ChangeShapes Go.WideShapes Go.ChangeAt Go.RowKit Go.Deep Go.Joins
set_option linter.unusedVariables false
set_option linter.unusedSimpArgs false
set_option maxRecDepth 100000

section
variable {H : Type} {enc : TypeId × Value → H} {w : World}
theorem open_ec {base : Nat} {spare : Nat → Bool} {held : Bool} {fuel : Nat} {cs : List Value} {x : DataW H × List MemPlace} (h : DataW.trod enc Tryd.prog w base spare held fuel 31 cs = some x) : ∃ e : Ent, cs = eC e := by
  obtain ⟨xs, n', _, _, hlen2, hxl, hfs⟩ := DataW.trod_struct Tryd.underlying31 h
  rw [show Tryd.prog.cellsOf 31 = 2 by kernel_rfl] at hlen2
  match cs, hlen2 with
  | [c0, c1], _ =>
    have e1 : Tryd.prog.cellsOf 9 = 1 := by kernel_rfl
    have f0 : DataW.trod enc Tryd.prog w base spare held n' 9 (([c0, c1].drop 0).take (Tryd.prog.cellsOf 9)) = xs[0]? := hfs 0 _ rfl
    have f1 : DataW.trod enc Tryd.prog w base spare held n' 9 (([c0, c1].drop 1).take (Tryd.prog.cellsOf 9)) = xs[1]? := hfs 1 _ rfl
    simp only [e1, List.drop_zero, List.drop_succ_cons, List.take_succ_cons, List.take_zero] at f0 f1
    rw [List.getElem?_eq_getElem (by rw [hxl]; decide)] at f0 f1
    obtain ⟨k0, hk0, _, _⟩ := DataW.trod_string Tryd.underlying9 f0
    obtain ⟨k1, hk1, _, _⟩ := DataW.trod_string Tryd.underlying9 f1
    simp at hk0 hk1
    subst hk0 hk1
    exact ⟨(k0, k1), rfl⟩
theorem open_ents {base b0 : Nat} {spare : Nat → Bool} {held : Bool} {r : Reach} {v : Value} {d : DataW H} {p : List MemPlace} (hv : Value.okWide Tryd.prog w r b0 22 v) (h : DataW.Trod enc Tryd.prog w base spare held 22 v d p) :
    ∃ (A : Option Addr) (l : List Ent) (c : Nat), v = .slice A l.length c ∧ l.length ≤ c ∧ c ≤ maxLen ∧ Sl w w.heap.size 2 A l.length (eCells l) := by
  obtain ⟨A, n, c, rfl⟩ := okWide_slice Tryd.underlying22 hv
  obtain ⟨fuel, hf⟩ := h
  obtain ⟨A', l, c', h1, h2, h3, h4, _⟩ := open_row (P := Tryd.prog) (β := Ent) eC (fun _ => True) (s := 2) (by omega) (fun b => rfl) (by kernel_rfl) Tryd.underlying22 (fun n cs' y hd _ => by
    obtain ⟨o, ho⟩ := open_ec hd
    exact ⟨o, ho, trivial⟩) hf
  simp [Value.cells] at h1
  obtain ⟨rfl, rfl, rfl⟩ := h1
  exact ⟨A, l, c, rfl, h2, h3, h4⟩
end
end Go.Proofs.YtdeikpifflkabaaDoor

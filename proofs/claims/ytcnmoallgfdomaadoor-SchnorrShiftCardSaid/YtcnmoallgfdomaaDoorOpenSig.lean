/- What this text proves: how a number and a signature read that came in as arguments. No condition. -/
import Derived.Test.YtcnmoallgfdomaaDoorOpenBlake
import Derived.ProofKit
import Derived.OpenShut
import Derived.ChangeOld
import Derived.Lib.SmallJoins
namespace Go.Proofs.YtcnmoallgfdomaaDoor
open Go.ChangeShapes Go.WideShapes Go.ChangeAt Go.RowKit Go.Deep Go.Joins
set_option linter.unusedVariables false
set_option linter.unusedSimpArgs false

section
variable {H : Type} {enc : TypeId × Value → H} {w : World}
theorem open_u64 {base b0 : Nat} {spare : Nat → Bool} {held : Bool} {r : Reach} {v : Value} {d : DataW H} {p : List MemPlace} (hv : Value.okWide Tryd.prog w r b0 22 v) (h : DataW.Trod enc Tryd.prog w base spare held 22 v d p) :
    ∃ a : Nat, v = .int .u64 (a : Int) ∧ a < 18446744073709551616 := by
  obtain ⟨k, rfl, _, _, hw⟩ := open_int Tryd.underlying22 hv h
  have := bounds_u64 hw
  exact ⟨k.toNat, by congr 1; omega, by omega⟩
theorem open_sigc {base : Nat} {spare : Nat → Bool} {held : Bool} {fuel : Nat} {cs : List Value} {x : DataW H × List MemPlace} (h : DataW.trod enc Tryd.prog w base spare held fuel 25 cs = some x) : ∃ a b : Nat, cs = [.int .u64 (a : Int), .int .u64 (b : Int)] ∧ a < 18446744073709551616 ∧ b < 18446744073709551616 := by
  obtain ⟨xs, n', _, _, hlen2, hxl, hfs⟩ := DataW.trod_struct Tryd.underlying25 h
  rw [show Tryd.prog.cellsOf 25 = 2 by kernel_rfl] at hlen2
  have ei : Tryd.prog.cellsOf 22 = 1 := by kernel_rfl
  have f0 : DataW.trod enc Tryd.prog w base spare held n' 22 ((cs.drop 0).take (Tryd.prog.cellsOf 22)) = xs[0]? := hfs 0 _ rfl
  rw [ei, List.getElem?_eq_getElem (by rw [hxl]; decide)] at f0
  obtain ⟨k0, e0, _, w0⟩ := DataW.trod_int Tryd.underlying22 f0
  have f1 : DataW.trod enc Tryd.prog w base spare held n' 22 ((cs.drop 1).take (Tryd.prog.cellsOf 22)) = xs[1]? := hfs 1 _ rfl
  rw [ei, List.getElem?_eq_getElem (by rw [hxl]; decide)] at f1
  obtain ⟨k1, e1, _, w1⟩ := DataW.trod_int Tryd.underlying22 f1
  have b0 := bounds_u64 w0
  have b1 := bounds_u64 w1
  refine ⟨k0.toNat, k1.toNat, ?_, by omega, by omega⟩
  have cut : ∀ a b c : Nat, a + b = c → cs.drop a = (cs.drop a).take b ++ cs.drop c := fun a b c e => by subst e; rw [← List.drop_drop, List.take_append_drop]
  have hz : cs.drop 2 = [] := List.drop_of_length_le (by omega)
  have hc : cs = cs.drop 0 := rfl
  rw [hc, cut 0 1 1 rfl, e0, cut 1 1 2 rfl, e1, hz]
  simp
  omega
theorem open_sig {base b0 : Nat} {spare : Nat → Bool} {held : Bool} {r : Reach} {v : Value} {d : DataW H} {p : List MemPlace} (hv : Value.okWide Tryd.prog w r b0 25 v) (h : DataW.Trod enc Tryd.prog w base spare held 25 v d p) :
    ∃ a b : Nat, v = .agg #[.int .u64 (a : Int), .int .u64 (b : Int)] ∧ a < 18446744073709551616 ∧ b < 18446744073709551616 := by
  obtain ⟨cs, rfl, _⟩ := okWide_struct Tryd.underlying25 hv
  obtain ⟨fuel, hf⟩ := h
  obtain ⟨a, b, ho, h1, h2⟩ := open_sigc hf
  simp only [Value.cells] at ho
  refine ⟨a, b, ?_, h1, h2⟩
  congr 1
  apply Array.ext'
  exact ho
end
end Go.Proofs.YtcnmoallgfdomaaDoor

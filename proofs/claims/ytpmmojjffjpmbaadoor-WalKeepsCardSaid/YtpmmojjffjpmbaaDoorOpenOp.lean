/- What this text proves: how a script's operation, and a slice of them, read that came in as arguments. No condition. -/
import Derived.Test.YtpmmojjffjpmbaaDoorOpenRow
import Derived.Lib.SmallJoins
namespace Go.Proofs.YtpmmojjffjpmbaaDoor
open Go.ChangeShapes Go.WideShapes Go.ChangeAt Go.RowKit Go.Deep Go.Joins
set_option linter.unusedVariables false
set_option linter.unusedSimpArgs false

/-- An operation: three numbers and bytes. -/
structure OpV where
  k : Int
  n : Int
  m : Int
  A : Option Addr
  b : List UInt8
  c : Nat
deriving Inhabited
def OpV.cells (o : OpV) : List Value := [.int .i64 o.k, .int .i64 o.n, .int .i64 o.m, .slice o.A o.b.length o.c]
structure OpV.good (w : World) (o : OpV) : Prop where
  k : (Lit.int .i64 o.k).wf = true
  n : (Lit.int .i64 o.n).wf = true
  m : (Lit.int .i64 o.m).wf = true
  le : o.b.length ≤ o.c
  cap : o.c ≤ maxLen
  sl : Sl w w.heap.size 1 o.A o.b.length (bts o.b)

section
variable {H : Type} {enc : TypeId × Value → H} {w : World}
theorem open_opc {base : Nat} {spare : Nat → Bool} {held : Bool} {fuel : Nat} {cs : List Value} {x : DataW H × List MemPlace} (h : DataW.trod enc Tryd.prog w base spare held fuel 43 cs = some x) : ∃ o : OpV, cs = o.cells ∧ o.good w := by
  obtain ⟨xs, n', _, _, hlen2, hxl, hfs⟩ := DataW.trod_struct Tryd.underlying43 h
  rw [show Tryd.prog.cellsOf 43 = 4 by kernel_rfl] at hlen2
  match cs, hlen2 with
  | [c0, c1, c2, c3], _ =>
    have e1 : Tryd.prog.cellsOf 3 = 1 := by kernel_rfl
    have e3 : Tryd.prog.cellsOf 22 = 1 := by kernel_rfl
    have f0 : DataW.trod enc Tryd.prog w base spare held n' 3 (([c0, c1, c2, c3].drop 0).take (Tryd.prog.cellsOf 3)) = xs[0]? := hfs 0 _ rfl
    have f1 : DataW.trod enc Tryd.prog w base spare held n' 3 (([c0, c1, c2, c3].drop 1).take (Tryd.prog.cellsOf 3)) = xs[1]? := hfs 1 _ rfl
    have f2 : DataW.trod enc Tryd.prog w base spare held n' 3 (([c0, c1, c2, c3].drop 2).take (Tryd.prog.cellsOf 3)) = xs[2]? := hfs 2 _ rfl
    have f3 : DataW.trod enc Tryd.prog w base spare held n' 22 (([c0, c1, c2, c3].drop 3).take (Tryd.prog.cellsOf 22)) = xs[3]? := hfs 3 _ rfl
    simp only [e1, e3, List.drop_zero, List.drop_succ_cons, List.take_succ_cons, List.take_zero] at f0 f1 f2 f3
    rw [List.getElem?_eq_getElem (by rw [hxl]; decide)] at f0 f1 f2 f3
    obtain ⟨k0, hk0, _, w0⟩ := DataW.trod_int Tryd.underlying3 f0
    obtain ⟨k1, hk1, _, w1⟩ := DataW.trod_int Tryd.underlying3 f1
    obtain ⟨k2, hk2, _, w2⟩ := DataW.trod_int Tryd.underlying3 f2
    obtain ⟨A, l, c, hk3, hl, hm, hsl⟩ := open_bts f3
    simp at hk0 hk1 hk2 hk3
    subst hk0 hk1 hk2 hk3
    exact ⟨⟨k0, k1, k2, A, l, c⟩, rfl, w0, w1, w2, hl, hm, hsl⟩

/-- An operation by value. -/
theorem open_op {base b0 : Nat} {spare : Nat → Bool} {held : Bool} {r : Reach} {v : Value} {d : DataW H} {p : List MemPlace} (hv : Value.okWide Tryd.prog w r b0 43 v) (h : DataW.Trod enc Tryd.prog w base spare held 43 v d p) :
    ∃ o : OpV, v = .agg o.cells.toArray ∧ o.good w := by
  obtain ⟨cs, rfl, _⟩ := okWide_struct Tryd.underlying43 hv
  obtain ⟨fuel, hf⟩ := h
  obtain ⟨o, ho, hg⟩ := open_opc hf
  simp only [Value.cells] at ho
  exact ⟨o, by rw [← ho], hg⟩

/-- A slice of operations. -/
theorem open_ops {base b0 : Nat} {spare : Nat → Bool} {held : Bool} {r : Reach} {v : Value} {d : DataW H} {p : List MemPlace} (hv : Value.okWide Tryd.prog w r b0 41 v) (h : DataW.Trod enc Tryd.prog w base spare held 41 v d p) :
    ∃ (A : Option Addr) (l : List OpV) (c : Nat), v = .slice A l.length c ∧ l.length ≤ c ∧ c ≤ maxLen ∧ Sl w w.heap.size 4 A l.length (l.flatMap OpV.cells) ∧ ∀ o ∈ l, OpV.good w o := by
  obtain ⟨A, n, c, rfl⟩ := okWide_slice Tryd.underlying41 hv
  obtain ⟨fuel, hf⟩ := h
  obtain ⟨A', l, c', h1, h2, h3, h4, h5⟩ := open_row (P := Tryd.prog) (β := OpV) OpV.cells (OpV.good w) (s := 4) (by omega) (fun _ => rfl) (by kernel_rfl) Tryd.underlying41 (fun n cs' y hd _ => open_opc hd) hf
  simp [Value.cells] at h1
  obtain ⟨rfl, rfl, rfl⟩ := h1
  exact ⟨A, l, c, rfl, h2, h3, h4, h5⟩
end
end Go.Proofs.YtpmmojjffjpmbaaDoor

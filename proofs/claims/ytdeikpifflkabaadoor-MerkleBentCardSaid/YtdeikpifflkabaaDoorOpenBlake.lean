/- What this text proves: how the laws' arguments of layer 3 read, and what the package's table of the beginning is where the row lays it. No condition. -/
import Derived.Test.YtdeikpifflkabaaDoorOpenRow
import Derived.Test.YtdeikpifflkabaaDoorBlakeDg
import Derived.Test.YtdeikpifflkabaaDoorRows
import Derived.Lib.LaidU8
import Derived.LaidLaws
namespace Go.Proofs.YtdeikpifflkabaaDoor
open Go.ChangeShapes Go.WideShapes Go.ChangeAt Go.RowKit Go.Deep
set_option linter.unusedVariables false
set_option linter.unusedSimpArgs false

/-- A world where the table is laid. -/
noncomputable def laidWorld (os : Os) : World :=
  let w0 := World.holding Tryd.prog os ⟨#[], #[], []⟩
  { w0 with heap := w0.heap.modify 0 fun
      | .cells _ t frozen => .cells #[.int .u32 1779033703, .int .u32 3144134277, .int .u32 1013904242, .int .u32 2773480762, .int .u32 1359893119, .int .u32 2600822924, .int .u32 528734635, .int .u32 1541459225] t frozen
      | o => o }
theorem roots_named : Tryd.prog.globalNamed "nuncio/blake.roots" = some 0 := by kernel_rfl
def rootsD : List (DataW Unit) := [.lit (.int .u32 1779033703), .lit (.int .u32 3144134277), .lit (.int .u32 1013904242), .lit (.int .u32 2773480762), .lit (.int .u32 1359893119), .lit (.int .u32 2600822924), .lit (.int .u32 528734635), .lit (.int .u32 1541459225)]
theorem rootsD_at : ∀ j, j < 8 → rootsD[j]? = some (.lit (.int .u32 (rootsL.getD j 0))) := fun j hj => by
  match j, hj with
  | 0, _ => rfl
  | 1, _ => rfl
  | 2, _ => rfl
  | 3, _ => rfl
  | 4, _ => rfl
  | 5, _ => rfl
  | 6, _ => rfl
  | 7, _ => rfl
theorem roots_of {laid : List (String × DataW Unit)} {W : World} (h : laidMet Tryd.prog laid W) (hm : ("nuncio/blake.roots", (.agg rootsD : DataW Unit)) ∈ laid) : Roots W ∧ 0 < W.heap.size := by
  obtain ⟨g, t, cs, fuel, p, hg, ht, hv, hd⟩ := Lib.laidMet.reads h hm
  obtain rfl : g = 0 := Option.some.inj (hg.symm.trans roots_named)
  obtain rfl : t = 97 := Option.some.inj (ht.symm.trans (show (Tryd.prog.globals[0]?).map (·.type) = some 97 by kernel_rfl))
  have hall : Roots W := by
    intro j v hj
    have hj8 : j < 8 := by
      have := (List.getElem?_eq_some_iff.1 hj).1
      rw [u32s_len] at this
      exact this
    obtain ⟨f', d, q, h1, h2⟩ := Lib.array_elem Tryd.underlying97 hd j hj8
    rw [show Tryd.prog.cellsOf 81 = 1 by kernel_rfl] at h2
    obtain ⟨k, hk, hdk, _⟩ := DataW.trod_int Tryd.underlying81 h2
    have h1' : some (DataW.lit (.int .u32 (rootsL.getD j 0)) : DataW Unit) = some d := (rootsD_at j hj8).symm.trans h1
    have hk0 : k = rootsL.getD j 0 := by
      have e := Option.some.inj h1'
      have e2 := e.trans (congrArg Prod.fst hdk)
      simpa using e2.symm
    have hc : cs[j]? = some (.int .u32 k) := by
      have h0 : ((cs.toList.drop (j * 1)).take 1)[0]? = some (.int .u32 k) := by rw [hk]; rfl
      rw [List.getElem?_take, if_pos (by omega), List.getElem?_drop] at h0
      simpa using h0
    have hv0 : v = .int .u32 (rootsL.getD j 0) := by
      rw [u32s_get rfl hj8] at hj
      exact (Option.some.inj hj).symm
    rw [World.var?_cell roots_named hv, Nat.zero_add, hc, hk0, hv0]
  refine ⟨hall, ?_⟩
  have h0 := hall 0 (.int .u32 (rootsL.getD 0 0)) (u32s_get rfl (by decide))
  exact World.block_lt_of_cell? W _ h0
end Go.Proofs.YtdeikpifflkabaaDoor

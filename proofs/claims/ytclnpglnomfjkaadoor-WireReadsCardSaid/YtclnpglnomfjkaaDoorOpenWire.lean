/- What this text proves: that the package-level variable of layer 2 can be as its row lays it. No condition. -/
import Derived.Test.YtclnpglnomfjkaaDoorWireField
import Derived.Test.YtclnpglnomfjkaaDoorRows
import Derived.LaidLaws
namespace Go.Proofs.YtclnpglnomfjkaaDoor
open Go.ChangeShapes Go.WideShapes Go.ChangeAt Go.RowKit Go.Deep
set_option linter.unusedVariables false

noncomputable def lowW : Nat := (World.holding Tryd.prog default ⟨#[], #[], []⟩).heap.size
def bigS : ByteArray := ⟨#[98, 121, 116, 101, 115, 46, 66, 117, 102, 102, 101, 114, 58, 32, 116, 111, 111, 32, 108, 97, 114, 103, 101]⟩
/-- A world where it is laid. -/
noncomputable def laidWorld (os : Os) : World :=
  let w0 := World.holding Tryd.prog os ⟨#[.cells #[.string bigS] 106], #[], []⟩
  { w0 with heap := w0.heap.modify 0 fun
      | .cells _ t frozen => .cells #[.iface 90 (.pointer (some ⟨lowW, 0, none⟩))] t frozen
      | o => o }
end Go.Proofs.YtclnpglnomfjkaaDoor

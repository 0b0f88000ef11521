/- What this text proves: two facts of the program that every statement's frame asks for. No condition. -/
import Derived.Test.YtdeikpifflkabaaDoorBase
import Derived.Test.YtdeikpifflkabaaDoorProg
import Derived.ProofKit
import Derived.OpenShut
import Derived.ChangeOld
import Derived.Deep.Slices
namespace Go.Proofs.YtdeikpifflkabaaDoor
open Go.ChangeShapes Go.WideShapes Go.ChangeAt Go.RowKit Go.Deep
theorem own : ownKnob Tryd.prog.godebug = none := by kernel_rfl
theorem laidOut : laidOutB Tryd.prog = true := by kernel_rfl
end Go.Proofs.YtdeikpifflkabaaDoor

/- What this text proves: two facts of the program that every statement's frame asks for. No condition. -/
import Derived.Test.YtpbdlmkcomnjbaaBase
import Derived.Test.YtpbdlmkcomnjbaaProg
import Derived.ProofKit
import Derived.OpenShut
import Derived.ChangeOld
import Derived.Deep.Slices
namespace Go.Proofs.Ytpbdlmkcomnjbaa
open Go.ChangeShapes Go.WideShapes Go.ChangeAt Go.RowKit Go.Deep
theorem own : ownKnob Try.prog.godebug = none := by kernel_rfl
theorem laidOut : laidOutB Try.prog = true := by kernel_rfl
end Go.Proofs.Ytpbdlmkcomnjbaa

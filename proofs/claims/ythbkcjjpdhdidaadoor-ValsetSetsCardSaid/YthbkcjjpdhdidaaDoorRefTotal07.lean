/- What this text proves: the contract of the reference's Total. No condition but that the list is no longer than a slice can be. -/
import Derived.Test.YthbkcjjpdhdidaaDoorRef07
namespace Go.Proofs.YthbkcjjpdhdidaaDoor
open Go.RowKit
set_option linter.unusedVariables false
set_option linter.unusedSimpArgs false

set_option maxHeartbeats 1000000 in
theorem refTotal_any (A : Option Addr) (l : List (Int × Int)) (c : Nat) (w : World) (hl : l.length ≤ maxLen) (hA : Sl w w.heap.size 2 A l.length (vCells l)) :
    Calls Tryd.prog 6 #[.slice A l.length c] w fun e w' => e = .returned (.tuple #[.int .i64 (totalV l).1, .int .i64 (totalV l).2]) ∧ Below w.heap.size w w' := by
  have HC := Lib.hid (refRight_any A l c w hl hA)
  have HD := Lib.hid (fun (w1 : World) (hb : Below w.heap.size w w1) => refSum_any A l c w1 hl ((hA.below hb).more hb.size))
  clear hA hl
  cases hr : rightV l with
  | false =>
    rw [hr] at HC
    have HR := Lib.hid hr
    clear hr
    go_enter Tryd.func6, Tryd.ntmps6
    go_wp2_with fail
    refine HC.out.mono ?_; rintro e w1 ⟨rfl, hb1⟩
    go_wp2_with fail
    go_ret2
    exact ⟨ret_two (by rw [totalV, HR.out]; rfl) (by rw [totalV, HR.out]; rfl), hb1⟩
  | true =>
    rw [hr] at HC
    have hs : refSum l = (totalV l).1 := by
      rw [totalV, if_pos hr, refSum, if_pos]
      simp [rightV] at hr
      exact hr.1.1.1
    have hs2 : (totalV l).2 = 0 := by rw [totalV, if_pos hr]
    rw [hs] at HD
    rw [hs2]
    clear hr hs hs2
    go_enter Tryd.func6, Tryd.ntmps6
    go_wp2_with fail
    refine HC.out.mono ?_; rintro e w1 ⟨rfl, hb1⟩
    go_wp2_with fail
    refine (HD.out _ hb1).mono ?_; rintro e w2 ⟨rfl, hb2⟩
    go_wp2_with fail
    go_ret2
    exact ⟨rfl, step_b hb1 hb2⟩
end Go.Proofs.YthbkcjjpdhdidaaDoor

/- What this text proves: the contract of nuncioref07.Power. The condition is how the list lies in memory. -/
import Derived.Test.YthbkcjjpdhdidaaDoorRef07
import Derived.Test.YthbkcjjpdhdidaaDoorPower
namespace Go.Proofs.YthbkcjjpdhdidaaDoor
open Go.RowKit
set_option linter.unusedVariables false
set_option linter.unusedSimpArgs false

set_option maxHeartbeats 1000000 in
theorem refPower_any (A : Option Addr) (l : List (Int × Int)) (c : Nat) (key : Int) (w : World) (hl : l.length ≤ maxLen) (hA : Sl w w.heap.size 2 A l.length (vCells l)) :
    Calls Tryd.prog 12 #[.slice A l.length c, .int .u64 key] w fun e w' => e = .returned (.int .i64 (powerV l key)) ∧ Below w.heap.size w w' := by
  unfold maxLen at hl
  have HA := Lib.hid hA
  clear hA
  go_enter Tryd.func12, Tryd.ntmps12
  go_wp2_with fail
  go_loopw [5] (fun i wr => ∃ (k : Nat), k ≤ l.length ∧ i = .int .i64 k ∧ powerV l key = powerV (l.drop k) key ∧ Below w.heap.size w wr) (fun i _ => l.length - (intOf i).toNat)
  case atStart => exact ⟨0, by omega, rfl, by simp, Below.refl _ _⟩
  case round =>
    obtain ⟨k, hk, rfl, hs, hbel⟩ := hrel
    have hz := hbel.size
    by_cases hlt : k < l.length
    · obtain ⟨b, off, ke, pe, rfl, hb, hck, hcp, hlk⟩ := (HA.out.below hbel).val hlt
      rw [drop_at hlk] at hs
      have HS := Lib.hid hs
      have HL := Lib.hid hlk
      clear hs hlk
      by_cases he : ke = key
      · have he' : (ke == key) = true := by simpa using he
        have HE := Lib.hid he
        clear he
        go_wp2_with fail
        go_ret
        exact ⟨ret_int (by rw [HS.out, powerV, if_pos HE.out]), (by (first | assumption | (repeat (first | exact Below.refl _ _ | assumption | apply Below.drew | apply below_drewN | (refine Below.setCell ?_ (by (try simp) <;> omega) _) | (refine Below.alloc ?_ (by (try simp) <;> omega) _)))))⟩
      · have he' : (ke == key) = false := by simpa using he
        go_wp2_with fail
        go_roundw
        case rel => exact ⟨k+1, by omega, by go_num, by rw [HS.out, powerV, if_neg he], (by (first | assumption | (repeat (first | exact Below.refl _ _ | assumption | apply Below.drew | apply below_drewN | (refine Below.setCell ?_ (by (try simp) <;> omega) _) | (refine Below.alloc ?_ (by (try simp) <;> omega) _)))))⟩
        case measure => simp [intOf]; omega
    · obtain rfl : k = l.length := by omega
      rw [List.drop_length] at hs
      have HS := Lib.hid hs
      clear hs
      go_wp2_with fail
      go_ret
      exact ⟨ret_int (by rw [HS.out]; rfl), (by (first | assumption | (repeat (first | exact Below.refl _ _ | assumption | apply Below.drew | apply below_drewN | (refine Below.setCell ?_ (by (try simp) <;> omega) _) | (refine Below.alloc ?_ (by (try simp) <;> omega) _)))))⟩

/-- A list without a key. -/
def outV (l : List (Int × Int)) (k : Int) : List (Int × Int) := l.filter fun v => !(v.1 == k)
end Go.Proofs.YthbkcjjpdhdidaaDoor

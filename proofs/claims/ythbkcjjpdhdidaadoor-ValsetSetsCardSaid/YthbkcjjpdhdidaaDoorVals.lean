/- What this text proves: what the package valset's functions sum, Right and Total compute of any list of validators (their contracts). No condition but that the list is no longer than a slice can be. -/
import Derived.Test.YthbkcjjpdhdidaaDoorProg
import Derived.Test.YthbkcjjpdhdidaaDoorValMath
import Derived.BigQuiet
import Derived.Deep.QuietTactic
import Derived.Deep.LoopGhost
namespace Go.Proofs.YthbkcjjpdhdidaaDoor
open Go.RowKit
set_option linter.unusedVariables false
set_option linter.unusedSimpArgs false


set_option maxHeartbeats 400000 in
theorem vsum_any (A : Option Addr) (l : List (Int × Int)) (c : Nat) (w : World) (hl : l.length ≤ maxLen) (hA : Sl w w.heap.size 2 A l.length (vCells l)) :
    Calls Tryd.prog 13 #[.slice A l.length c] w fun e w' => e = .returned (.tuple #[.int .i64 (sumV 0 l).1, .bool (sumV 0 l).2]) ∧ Below w.heap.size w w' := by
  unfold maxLen at hl
  have HA := Lib.hid hA
  clear hA
  go_enter Tryd.func13, Tryd.ntmps13
  go_wp2
  go_loopw [4, 9] (fun s i wr => ∃ (k : Nat) (n : Int), k ≤ l.length ∧ i = .int .i64 k ∧ s = .int .i64 n ∧ 0 ≤ n ∧ n ≤ 1125899906842624 ∧ sumV 0 l = sumV n (l.drop k) ∧ Below w.heap.size w wr) (fun _ i _ => l.length - (intOf i).toNat)
  case atStart => exact ⟨0, 0, by omega, rfl, rfl, by omega, by omega, by simp, Below.refl _ _⟩
  case round =>
    obtain ⟨k, n, hk, rfl, rfl, hn0, hn1, hs, hbel⟩ := hrel
    have hz := hbel.size
    by_cases hlt : k < l.length
    · obtain ⟨b, off, ke, pe, rfl, hb, hck, hcp, hlk⟩ := (HA.out.below hbel).val hlt
      rw [drop_at hlk] at hs
      have HS := Lib.hid hs
      have HL := Lib.hid hlk
      clear hs hlk
      go_wp2
      · go_ret2
        exact ⟨ret_two (by rw [HS.out, sumV, if_pos (by assumption)]; rfl) (by rw [HS.out, sumV, if_pos (by assumption)]; rfl), (by (first | assumption | (repeat (first | exact Below.refl _ _ | assumption | apply Below.drew | apply below_drewN | (refine Below.setCell ?_ (by (try simp) <;> omega) _) | (refine Below.alloc ?_ (by (try simp) <;> omega) _)))))⟩
      · go_roundw
        case rel => exact ⟨k+1, n+pe, by omega, by go_num, rfl, by omega, by omega, by rw [HS.out, sumV, if_neg (by omega)], (by (first | assumption | (repeat (first | exact Below.refl _ _ | assumption | apply Below.drew | apply below_drewN | (refine Below.setCell ?_ (by (try simp) <;> omega) _) | (refine Below.alloc ?_ (by (try simp) <;> omega) _)))))⟩
        case measure => simp [intOf]; omega
      · go_ret2
        exact ⟨ret_two (by rw [HS.out, sumV, if_pos (by omega)]; rfl) (by rw [HS.out, sumV, if_pos (by omega)]; rfl), (by (first | assumption | (repeat (first | exact Below.refl _ _ | assumption | apply Below.drew | apply below_drewN | (refine Below.setCell ?_ (by (try simp) <;> omega) _) | (refine Below.alloc ?_ (by (try simp) <;> omega) _)))))⟩
    · obtain rfl : k = l.length := by omega
      rw [List.drop_length] at hs
      have HS := Lib.hid hs
      clear hs
      go_wp2
      go_ret2
      exact ⟨ret_two (by rw [HS.out]; rfl) (by rw [HS.out]; rfl), (by (first | assumption | (repeat (first | exact Below.refl _ _ | assumption | apply Below.drew | apply below_drewN | (refine Below.setCell ?_ (by (try simp) <;> omega) _) | (refine Below.alloc ?_ (by (try simp) <;> omega) _)))))⟩


set_option maxHeartbeats 1000000 in
theorem right_any (A : Option Addr) (l : List (Int × Int)) (c : Nat) (w : World) (hl : l.length ≤ maxLen) (hA : Sl w w.heap.size 2 A l.length (vCells l)) :
    Calls Tryd.prog 9 #[.slice A l.length c] w fun e w' => e = .returned (.bool (rightV l)) ∧ Below w.heap.size w w' := by
  have HC := Lib.hid (vsum_any A l c w hl hA)
  unfold maxLen at hl
  have HA := Lib.hid hA
  clear hA
  go_enter Tryd.func9, Tryd.ntmps9
  go_wp2_with (go_at_call 13; refine HC.out.mono ?_; rintro e w1 ⟨rfl, hb1⟩)
  clear HC
  go_loopw [4, 13] (fun s i wr => ∃ (k : Nat) (t : Bool), k ≤ l.length ∧ i = .int .i64 k ∧ s = .bool t ∧ ((sumV 0 l).2 && ascV l) = (t && ascV (l.drop (k - 1))) ∧ Below w.heap.size w wr) (fun _ i _ => l.length - (intOf i).toNat)
  case atStart => exact ⟨0, _, by omega, rfl, rfl, by simp, hb1⟩
  case round =>
    obtain ⟨k, t, hk, rfl, rfl, hs, hbel⟩ := hrel
    have hz := hbel.size
    have HS := Lib.hid hs
    clear hs
    by_cases hlt : k < l.length
    · have hA' := HA.out.below hbel
      cases t with
      | false =>
        clear hA'
        go_wp2
        go_quiet (fail)
        go_wp2
        go_roundw
        case rel => exact ⟨k+1, false, by omega, by go_num, rfl, by rw [HS.out]; simp, (by (first | assumption | (repeat (first | exact Below.refl _ _ | assumption | apply Below.drew | apply below_drewN | (refine Below.setCell ?_ (by (try simp) <;> omega) _) | (refine Below.alloc ?_ (by (try simp) <;> omega) _)))))⟩
        case measure => simp [intOf]; omega
      | true =>
        by_cases hk0 : k = 0
        · subst hk0
          clear hA'
          go_wp2
          go_quiet (fail)
          go_wp2
          go_roundw
          case rel => exact ⟨0+1, true, by omega, by go_num, rfl, by rw [HS.out], (by (first | assumption | (repeat (first | exact Below.refl _ _ | assumption | apply Below.drew | apply below_drewN | (refine Below.setCell ?_ (by (try simp) <;> omega) _) | (refine Below.alloc ?_ (by (try simp) <;> omega) _)))))⟩
          case measure => simp [intOf]; omega
        · obtain ⟨j, rfl⟩ : ∃ j, k = j + 1 := ⟨k - 1, by omega⟩
          obtain ⟨b, off, ka, pa, rfl, hb, hca, _, hla⟩ := hA'.val (k := j) (by omega)
          obtain ⟨b', off', kb, pb, hAe, hb', hcb, _, hlb⟩ := hA'.val hlt
          injection hAe with hAe
          injection hAe with h1 h2
          subst h1 h2
          clear hA'
          have hs := HS.out
          rw [show j + 1 - 1 = j from rfl, drop_at hla, drop_at hlb] at hs
          have HS2 := Lib.hid hs
          have HLA := Lib.hid hla
          have HLB := Lib.hid hlb
          clear hs HS hla hlb
          have e1 : IntKind.i64.wrap ((j : Int) + 1) = (j : Int) + 1 := IntWalk.i64_in _ (by omega)
          have e2 : IntKind.i64.wrap ((j : Int) + 1 - 1) = (j : Int) := by rw [IntWalk.i64_in _ (by omega)]; omega
          have e3 : ((j : Int) + 1).toNat = j + 1 := by omega
          have e4 : (((j : Int) + 1) == 0) = false := by simp; omega
          have e5 : (j : Int) < (l.length : Int) := by omega
          have e6 : (j : Int) + 1 < (l.length : Int) := by omega
          have e7 : (0 : Int) ≤ (j : Int) + 1 := by omega
          go_wp2
          go_quiet (fail)
          clear e1 e2 e3 e4 e5 e6 e7
          go_wp2
          go_roundw
          case rel => exact ⟨j+1+1, decide (ka < kb), by omega, by go_num, rfl, by rw [HS2.out, show j + 1 + 1 - 1 = j + 1 from rfl, drop_at HLB.out]; simp [ascV], (by (first | assumption | (repeat (first | exact Below.refl _ _ | assumption | apply Below.drew | apply below_drewN | (refine Below.setCell ?_ (by (try simp) <;> omega) _) | (refine Below.alloc ?_ (by (try simp) <;> omega) _)))))⟩
          case measure => simp [intOf]; omega
    · obtain rfl : k = l.length := by omega
      have hfin : ascV (l.drop (l.length - 1)) = true := by
        cases h : l.drop (l.length - 1) with
        | nil => rfl
        | cons a r =>
          have : (l.drop (l.length - 1)).length ≤ 1 := by rw [List.length_drop]; omega
          rw [h] at this
          cases r with
          | nil => rfl
          | cons => simp at this
      have hs := HS.out
      rw [hfin, Bool.and_true] at hs
      have HS2 := Lib.hid hs
      clear hs HS hfin
      cases t with
      | false =>
        go_wp2
        go_ret
        exact ⟨ret_bool (by rw [rightV, HS2.out]; rfl), (by (first | assumption | (repeat (first | exact Below.refl _ _ | assumption | apply Below.drew | apply below_drewN | (refine Below.setCell ?_ (by (try simp) <;> omega) _) | (refine Below.alloc ?_ (by (try simp) <;> omega) _)))))⟩
      | true =>
        by_cases h1 : 1 ≤ l.length
        · by_cases h2 : l.length ≤ 64
          · go_wp2
            go_ret
            exact ⟨ret_bool (by rw [rightV, HS2.out]; simp [h1, h2]; omega), (by (first | assumption | (repeat (first | exact Below.refl _ _ | assumption | apply Below.drew | apply below_drewN | (refine Below.setCell ?_ (by (try simp) <;> omega) _) | (refine Below.alloc ?_ (by (try simp) <;> omega) _)))))⟩
          · go_wp2
            go_ret
            exact ⟨ret_bool (by rw [rightV, HS2.out]; simp [h1, h2]; omega), (by (first | assumption | (repeat (first | exact Below.refl _ _ | assumption | apply Below.drew | apply below_drewN | (refine Below.setCell ?_ (by (try simp) <;> omega) _) | (refine Below.alloc ?_ (by (try simp) <;> omega) _)))))⟩
        · go_wp2
          go_ret
          exact ⟨ret_bool (by rw [rightV, HS2.out]; simp [h1]), (by (first | assumption | (repeat (first | exact Below.refl _ _ | assumption | apply Below.drew | apply below_drewN | (refine Below.setCell ?_ (by (try simp) <;> omega) _) | (refine Below.alloc ?_ (by (try simp) <;> omega) _)))))⟩


set_option maxHeartbeats 1000000 in
theorem total_any (A : Option Addr) (l : List (Int × Int)) (c : Nat) (w : World) (hl : l.length ≤ maxLen) (hA : Sl w w.heap.size 2 A l.length (vCells l)) :
    Calls Tryd.prog 5 #[.slice A l.length c] w fun e w' => e = .returned (.tuple #[.int .i64 (totalV l).1, .int .i64 (totalV l).2]) ∧ Below w.heap.size w w' := by
  have HC := Lib.hid (right_any A l c w hl hA)
  have HD := Lib.hid (fun (w1 : World) (hb : Below w.heap.size w w1) => vsum_any A l c w1 hl ((hA.below hb).more hb.size))
  clear hA hl
  cases hr : rightV l with
  | false =>
    rw [hr] at HC
    have HR := Lib.hid hr
    clear hr
    go_enter Tryd.func5, Tryd.ntmps5
    go_wp2_with (go_at_call 9; refine HC.out.mono ?_; rintro e w1 ⟨rfl, hb1⟩)
    go_ret2
    exact ⟨ret_two (by rw [totalV, HR.out]; rfl) (by rw [totalV, HR.out]; rfl), (by (first | assumption | (repeat (first | exact Below.refl _ _ | assumption | apply Below.drew | apply below_drewN | (refine Below.setCell ?_ (by (try simp) <;> omega) _) | (refine Below.alloc ?_ (by (try simp) <;> omega) _)))))⟩
  | true =>
    rw [hr] at HC
    have HR := Lib.hid hr
    clear hr
    go_enter Tryd.func5, Tryd.ntmps5
    go_wp2_with (first
      | (go_at_call 9; refine HC.out.mono ?_; rintro e w1 ⟨rfl, hb1⟩)
      | (go_at_call 13; refine (HD.out _ hb1).mono ?_; rintro e w2 ⟨rfl, hb2⟩))
    go_ret2
    exact ⟨ret_two (by rw [totalV, HR.out]; rfl) (by rw [totalV, HR.out]; rfl), hb1.trans (hb2.mono hb1.size)⟩


end Go.Proofs.YthbkcjjpdhdidaaDoor

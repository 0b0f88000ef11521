/- What this text proves: the contracts of the reference's Sum, Right and Total of layer 7, for any list of validators. No condition but that the list is no longer than a slice can be. -/
import Derived.Test.YthbkcjjpdhdidaaDoorVals
namespace Go.Proofs.YthbkcjjpdhdidaaDoor
open Go.RowKit
set_option linter.unusedVariables false
set_option linter.unusedSimpArgs false

def refSum (l : List (Int × Int)) : Int := if (sumV 0 l).2 then (sumV 0 l).1 else -1

theorem sumV_bad {n k p : Int} {l : List (Int × Int)} (h : p < 1 ∨ 1125899906842624 - n < p) : sumV n ((k, p) :: l) = (0, false) := by rw [sumV, if_pos h]
theorem sumV_ok {n k p : Int} {l : List (Int × Int)} (h : ¬ (p < 1 ∨ 1125899906842624 - n < p)) : sumV n ((k, p) :: l) = sumV (n + p) l := by rw [sumV, if_neg h]

set_option maxHeartbeats 1000000 in
theorem refSum_any (A : Option Addr) (l : List (Int × Int)) (c : Nat) (w : World) (hl : l.length ≤ maxLen) (hA : Sl w w.heap.size 2 A l.length (vCells l)) :
    Calls Tryd.prog 14 #[.slice A l.length c] w fun e w' => e = .returned (.int .i64 (refSum l)) ∧ Below w.heap.size w w' := by
  unfold maxLen at hl
  have HA := Lib.hid hA
  clear hA
  go_enter Tryd.func14, Tryd.ntmps14
  go_wp2_with fail
  go_loopw [3, 4] (fun s i wr => ∃ (k : Nat) (n : Int), k ≤ l.length ∧ i = .int .i64 k ∧ s = .int .i64 n ∧ 0 ≤ n ∧ n ≤ 1125899906842624 ∧ sumV 0 l = sumV n (l.drop k) ∧ Below w.heap.size w wr) (fun _ i _ => l.length - (intOf i).toNat)
  case atStart => exact ⟨0, 0, by omega, rfl, rfl, by omega, by omega, by simp, Below.refl _ _⟩
  case round =>
    obtain ⟨k, n, hk, rfl, rfl, hn0, hn1, hs, hbel⟩ := hrel
    have hz := hbel.size
    by_cases hlt : k < l.length
    · obtain ⟨b, off, ke, pe, rfl, hb, hck, hcp, hlk⟩ := (HA.out.below hbel).val hlt
      rw [drop_at hlk] at hs
      have HS := Lib.hid hs
      clear hs hlk hck
      by_cases h1 : pe < 1
      · go_wp2_with fail
        go_ret
        exact ⟨ret_int (by rw [refSum, HS.out, sumV_bad (by omega)]; rfl), (by (first | assumption | (repeat (first | exact Below.refl _ _ | assumption | apply Below.drew | apply below_drewN | (refine Below.setCell ?_ (by (try simp) <;> omega) _) | (refine Below.alloc ?_ (by (try simp) <;> omega) _)))))⟩
      · have h1' : decide (pe < 1) = false := by simp; omega
        by_cases h2 : 1125899906842624 - n < pe
        · have h2' : decide (1125899906842624 - n < pe) = true := by simpa using h2
          go_wp2_with fail
          go_ret
          exact ⟨ret_int (by rw [refSum, HS.out, sumV_bad (by omega)]; rfl), (by (first | assumption | (repeat (first | exact Below.refl _ _ | assumption | apply Below.drew | apply below_drewN | (refine Below.setCell ?_ (by (try simp) <;> omega) _) | (refine Below.alloc ?_ (by (try simp) <;> omega) _)))))⟩
        · have h2' : decide (1125899906842624 - n < pe) = false := by simpa using h2
          have h3 : n + pe ≤ 1125899906842624 := by omega
          go_wp2_with fail
          go_roundw
          case rel => exact ⟨k + 1, n + pe, by omega, by go_num, rfl, by omega, by omega, by rw [HS.out, sumV_ok (by omega)], (by (first | assumption | (repeat (first | exact Below.refl _ _ | assumption | apply Below.drew | apply below_drewN | (refine Below.setCell ?_ (by (try simp) <;> omega) _) | (refine Below.alloc ?_ (by (try simp) <;> omega) _)))))⟩
          case measure => simp [intOf]; omega
    · obtain rfl : k = l.length := by omega
      rw [List.drop_length] at hs
      have HS := Lib.hid hs
      clear hs
      go_wp2_with fail
      go_ret
      exact ⟨ret_int (by rw [refSum, HS.out]; rfl), (by (first | assumption | (repeat (first | exact Below.refl _ _ | assumption | apply Below.drew | apply below_drewN | (refine Below.setCell ?_ (by (try simp) <;> omega) _) | (refine Below.alloc ?_ (by (try simp) <;> omega) _)))))⟩

theorem sumV_nonneg : ∀ (l : List (Int × Int)) (n : Int), 0 ≤ n → 0 ≤ (sumV n l).1
  | [], n, h => by simp [sumV]; exact h
  | v :: l, n, h => by
    rw [sumV]
    split
    · exact Int.le_refl _
    · exact sumV_nonneg l (n + v.2) (by omega)
theorem refSum_neg (l : List (Int × Int)) : decide (refSum l < 0) = !(sumV 0 l).2 := by
  unfold refSum
  have := sumV_nonneg l 0 (by omega)
  cases (sumV 0 l).2 <;> simp
  exact this
theorem asc_fin {l : List (Int × Int)} {k : Nat} (h : l.length ≤ k + 1) : ascV (l.drop k) = true := by
  cases hd : l.drop k with
  | nil => rfl
  | cons a r =>
    have : (l.drop k).length ≤ 1 := by rw [List.length_drop]; omega
    rw [hd] at this
    cases r with
    | nil => rfl
    | cons => simp at this

theorem hd2 {l : List (Int × Int)} {k : Nat} {a b : Int × Int} (ha : l[k]? = some a) (hb : l[k + 1]? = some b) : l.drop k = a :: b :: l.drop (k + 1 + 1) := by
  rw [drop_at ha, drop_at hb]

set_option maxHeartbeats 2000000 in
theorem refRight_any (A : Option Addr) (l : List (Int × Int)) (c : Nat) (w : World) (hl : l.length ≤ maxLen) (hA : Sl w w.heap.size 2 A l.length (vCells l)) :
    Calls Tryd.prog 10 #[.slice A l.length c] w fun e w' => e = .returned (.bool (rightV l)) ∧ Below w.heap.size w w' := by
  have HC := Lib.hid (refSum_any A l c w hl hA)
  have HN := Lib.hid (refSum_neg l)
  unfold maxLen at hl
  have HA := Lib.hid hA
  clear hA
  by_cases h1 : l.length < 1
  · go_enter Tryd.func10, Tryd.ntmps10
    go_wp2_with fail
    go_ret
    exact ⟨ret_bool (by simp [rightV]; intros; omega), Below.refl _ _⟩
  · have e1 : decide ((l.length : Int) < 1) = false := by simp; omega
    by_cases h2 : 64 < l.length
    · go_enter Tryd.func10, Tryd.ntmps10
      go_wp2_with fail
      go_ret
      exact ⟨ret_bool (by simp [rightV]; intros; omega), Below.refl _ _⟩
    · have e2 : decide ((64 : Int) < (l.length : Int)) = false := by simp; omega
      have e3 : decide (64 < l.length) = false := by simp; omega
      have hrv : rightV l = ((sumV 0 l).2 && ascV l) := by
        rw [rightV]
        simp [show 1 ≤ l.length from by omega, show l.length ≤ 64 from by omega]
      have HRV := Lib.hid hrv
      clear hrv
      obtain ⟨s, hs⟩ : ∃ s, refSum l = s := ⟨_, rfl⟩
      rw [hs] at HC HN
      cases hok : (sumV 0 l).2 with
      | false =>
        have hneg : decide (s < 0) = true := by rw [HN.out, hok]; rfl
        have hneg' : s < 0 := by simpa using hneg
        rw [hok] at HRV
        clear hok hs
        go_enter Tryd.func10, Tryd.ntmps10
        go_wp2_with fail
        refine HC.out.mono ?_; rintro e w1 ⟨rfl, hb1⟩
        go_wp2_with fail
        go_ret
        exact ⟨ret_bool (by rw [HRV.out]; rfl), hb1⟩
      | true =>
        have hneg : decide (s < 0) = false := by rw [HN.out, hok]; rfl
        have hneg' : ¬ s < 0 := by simpa using hneg
        rw [hok, Bool.true_and] at HRV
        clear hok hs
        go_enter Tryd.func10, Tryd.ntmps10
        go_wp2_with fail
        refine HC.out.mono ?_; rintro e w1 ⟨rfl, hb1⟩
        go_wp2_with fail
        clear hneg hneg' e1 e2 e3
        go_loopw [3] (fun i wr => ∃ (k : Nat), k + 1 ≤ l.length ∧ i = .int .i64 (k + 1 : Nat) ∧ ascV l = ascV (l.drop k) ∧ Below w.heap.size w wr) (fun i _ => l.length - (intOf i).toNat)
        case atStart => exact ⟨0, by omega, rfl, by simp, hb1⟩
        case round =>
          clear hb1
          obtain ⟨k, hk, rfl, ha, hbel⟩ := hrel
          have hz := hbel.size
          have g0 : ((k + 1 : Nat) : Int) = (k : Int) + 1 := by omega
          rw [g0]
          by_cases hlt : k + 1 < l.length
          · have hA' := HA.out.below hbel
            obtain ⟨b, off, ka, pa, rfl, hb, hca, _, hla⟩ := hA'.val (k := k) (by omega)
            obtain ⟨b', off', kb, pb, hAe, hb', hcb, _, hlb⟩ := hA'.val hlt
            injection hAe with hAe
            injection hAe with h1 h2
            subst h1 h2
            have hd := hd2 hla hlb
            rw [hd] at ha
            have HD := Lib.hid hd
            have HAS := Lib.hid ha
            have HLB := Lib.hid hlb
            have e1 : IntKind.i64.wrap ((k : Int) + 1) = (k : Int) + 1 := IntWalk.i64_in _ (by omega)
            have e2 : IntKind.i64.wrap ((k : Int) + 1 - 1) = (k : Int) := by rw [IntWalk.i64_in _ (by omega)]; omega
            have e3 : ((k : Int) + 1).toNat = k + 1 := by omega
            have e5 : (k : Int) < (l.length : Int) := by omega
            have e6 : (k : Int) + 1 < (l.length : Int) := by omega
            have e7 : (0 : Int) ≤ (k : Int) + 1 := by omega
            clear hd ha hla hlb hA' g0
            by_cases hq : kb ≤ ka
            · go_wp2_with fail
              go_quiet (fail)
              clear e1 e2 e3 e5 e6 e7
              go_wp2_with fail
              go_ret
              refine ⟨ret_bool ?_, (by (first | assumption | (repeat (first | exact Below.refl _ _ | assumption | apply Below.drew | apply below_drewN | (refine Below.setCell ?_ (by (try simp) <;> omega) _) | (refine Below.alloc ?_ (by (try simp) <;> omega) _)))))⟩
              rw [HRV.out, HAS.out, ascV, decide_eq_false (by omega), Bool.false_and]
            · go_wp2_with fail
              go_quiet (fail)
              clear e1 e2 e3 e5 e6 e7
              go_wp2_with fail
              go_roundw
              case rel => exact ⟨k + 1, by omega, by go_num, by rw [HAS.out, drop_at HLB.out, ascV, decide_eq_true (by omega), Bool.true_and], (by (first | assumption | (repeat (first | exact Below.refl _ _ | assumption | apply Below.drew | apply below_drewN | (refine Below.setCell ?_ (by (try simp) <;> omega) _) | (refine Below.alloc ?_ (by (try simp) <;> omega) _)))))⟩
              case measure => simp [intOf]; omega
          · go_wp2_with fail
            go_ret
            refine ⟨ret_bool ?_, (by (first | assumption | (repeat (first | exact Below.refl _ _ | assumption | apply Below.drew | apply below_drewN | (refine Below.setCell ?_ (by (try simp) <;> omega) _) | (refine Below.alloc ?_ (by (try simp) <;> omega) _)))))⟩
            rw [HRV.out, ha, asc_fin (by omega)]
end Go.Proofs.YthbkcjjpdhdidaaDoor

/- What this text proves: the contracts of merkle.Right and of the reference's Right. The conditions: no more entries, and no longer texts, than are asked about; how they lie in memory. where the reference splits a list (the contract of nuncioref05.split). The condition: two things or more, and not too many. the contracts of the laws' few, of the reference's Right, of merkle.split. The conditions: no more entries, and no longer texts, than are asked about; how they lie in memory. -/
import Derived.Test.YtdeikpifflkabaaDoorMerPure
import Derived.BigQuiet
import Derived.Laws.Cover1
import Derived.Test.YtdeikpifflkabaaDoorShelf
namespace Go.Proofs.YtdeikpifflkabaaDoor
open Go.RowKit
set_option linter.unusedVariables false
set_option linter.unusedSimpArgs false

set_option maxRecDepth 100000 in
set_option maxHeartbeats 2000000 in
theorem right_any (A : Option Addr) (l : List Ent) (c : Nat) (w : World) (hl : l.length ≤ 70) (hf : Fits l) (hA : Sl w w.heap.size 2 A l.length (eCells l)) :
    Calls Tryd.prog 10 #[.slice A l.length c] w fun e w' => e = .returned (.bool (ascK l)) ∧ Below w.heap.size w w' := by
  have HA := Lib.hid hA
  have HF := Lib.hid hf
  clear hA hf
  go_enter Tryd.func10, Tryd.ntmps10
  go_wp2_with fail
  go_loopw [7] (fun i wr => ∃ (k : Nat), k ≤ l.length ∧ i = .int .i64 k ∧ ascK l = ascK (l.drop (k - 1)) ∧ Below w.heap.size w wr) (fun i _ => l.length - (intOf i).toNat)
  case atStart => exact ⟨0, by omega, rfl, by simp, Below.refl _ _⟩
  case round =>
    obtain ⟨k, hk, rfl, hs, hbel⟩ := hrel
    have hz := hbel.size
    have HS := Lib.hid hs
    have HB := Lib.hid hbel
    clear hs hbel
    by_cases hlt : k < l.length
    · have hlt' : (k : Int) < (l.length : Int) := by omega
      obtain ⟨b, off, ka, va, rfl, hb, hca, hcv, hla⟩ := (HA.out.below HB.out).ent hlt
      have hfit := HF.out _ (List.mem_of_getElem? hla)
      simp only at hfit
      have e1 : decide ((4096 : Int) < (ka.size : Int)) = false := by simp; omega
      have e2 : decide ((4096 : Int) < (va.size : Int)) = false := by simp; omega
      by_cases hk0 : k = 0
      · subst hk0
        clear hla hfit
        simp only [Nat.zero_mul, Nat.add_zero] at hca hcv
        go_wp2_with fail
        go_quiet (fail)
        go_wp2_with fail
        go_roundw
        case rel => exact ⟨0 + 1, by omega, by go_num, by rw [HS.out], by have hbel := HB.out; (first | assumption | (repeat (first | exact Below.refl _ _ | assumption | apply Below.drew | apply below_drewN | (refine Below.setCell ?_ (by (try simp) <;> omega) _) | (refine Below.alloc ?_ (by (try simp) <;> omega) _))))⟩
        case measure => simp [intOf]; omega
      · obtain ⟨j, rfl⟩ : ∃ j, k = j + 1 := ⟨k - 1, by omega⟩
        obtain ⟨b', off', kb, vb, hAe, hb', hcb, _, hlb⟩ := (HA.out.below HB.out).ent (k := j) (by omega)
        injection hAe with hAe
        injection hAe with h1 h2
        subst h1 h2
        have hs := HS.out
        rw [show j + 1 - 1 = j from rfl, ascK_step hlb hla] at hs
        have HS2 := Lib.hid hs
        clear hs HS hla hlb hfit
        have e3 : IntKind.i64.wrap (j : Int) = (j : Int) := IntWalk.i64_in _ (by omega)
        have e4 : ((j : Int) + 1).toNat = j + 1 := by omega
        have e5 : (j : Int) < (l.length : Int) := by omega
        have e6 : (j : Int) + 1 < (l.length : Int) := by omega
        have e7 : (0 : Int) ≤ (j : Int) + 1 := by omega
        have e8 : decide ((0 : Int) < (j : Int) + 1) = true := decide_eq_true (by omega)
        cases hlk : ltK kb ka with
        | true =>
          go_upto_region 4 with fail
          have K2 := Bk.new wr 31 #[.string ka, .string va]
          have L2 : Hid (Below w.heap.size w (wr.alloc (.cells #[.string ka, .string va] 31))) := Lib.hid (by have hbel := HB.out; (first | assumption | (repeat (first | exact Below.refl _ _ | assumption | apply Below.drew | apply below_drewN | (refine Below.setCell ?_ (by (try simp) <;> omega) _) | (refine Below.alloc ?_ (by (try simp) <;> omega) _)))))
          have xb : (wr.alloc (.cells #[.string ka, .string va] 31)).cell? ⟨b, off + j * 2, none⟩ = some (.string kb) := ((Below.refl wr.heap.size wr).alloc (Nat.le_refl _) _).cell (p := ⟨b, off + j * 2, none⟩) (Nat.lt_of_lt_of_le hb HB.out.size) |>.trans hcb
          obtain ⟨w2, hw2⟩ : ∃ W, wr.alloc (.cells #[.string ka, .string va] 31) = W := ⟨_, rfl⟩
          rw [hw2] at K2 L2 xb ⊢
          have x0 : w2.cell? ⟨wr.heap.size, 0, none⟩ = some (.string ka) := K2.cell 0
          have x1 : w2.cell? ⟨wr.heap.size, 1, none⟩ = some (.string va) := K2.cell 1
          clear hw2 K2 hcb hca hcv
          have e9 : Op.bytesLess kb.toList ka.toList = true := hlk
          rw [hlk, Bool.true_and] at HS2
          go_quiet (fail)
          go_wp2_with fail
          go_roundw
          case rel => exact ⟨j + 1 + 1, by omega, by go_num, HS2.out, by have hbel := L2.out; (first | assumption | (repeat (first | exact Below.refl _ _ | assumption | apply Below.drew | apply below_drewN | (refine Below.setCell ?_ (by (try simp) <;> omega) _) | (refine Below.alloc ?_ (by (try simp) <;> omega) _))))⟩
          case measure => simp [intOf]; omega
        | false =>
          go_upto_region 4 with fail
          have K2 := Bk.new wr 31 #[.string ka, .string va]
          have L2 : Hid (Below w.heap.size w (wr.alloc (.cells #[.string ka, .string va] 31))) := Lib.hid (by have hbel := HB.out; (first | assumption | (repeat (first | exact Below.refl _ _ | assumption | apply Below.drew | apply below_drewN | (refine Below.setCell ?_ (by (try simp) <;> omega) _) | (refine Below.alloc ?_ (by (try simp) <;> omega) _)))))
          have xb : (wr.alloc (.cells #[.string ka, .string va] 31)).cell? ⟨b, off + j * 2, none⟩ = some (.string kb) := ((Below.refl wr.heap.size wr).alloc (Nat.le_refl _) _).cell (p := ⟨b, off + j * 2, none⟩) (Nat.lt_of_lt_of_le hb HB.out.size) |>.trans hcb
          obtain ⟨w2, hw2⟩ : ∃ W, wr.alloc (.cells #[.string ka, .string va] 31) = W := ⟨_, rfl⟩
          rw [hw2] at K2 L2 xb ⊢
          have x0 : w2.cell? ⟨wr.heap.size, 0, none⟩ = some (.string ka) := K2.cell 0
          have x1 : w2.cell? ⟨wr.heap.size, 1, none⟩ = some (.string va) := K2.cell 1
          clear hw2 K2 hcb hca hcv
          have e9 : Op.bytesLess kb.toList ka.toList = false := hlk
          rw [hlk, Bool.false_and] at HS2
          go_quiet (fail)
          go_wp2_with fail
          go_ret
          exact ⟨ret_bool HS2.out.symm, by have hbel := L2.out; (first | assumption | (repeat (first | exact Below.refl _ _ | assumption | apply Below.drew | apply below_drewN | (refine Below.setCell ?_ (by (try simp) <;> omega) _) | (refine Below.alloc ?_ (by (try simp) <;> omega) _))))⟩
    · obtain rfl : k = l.length := by omega
      have hs := HS.out
      rw [ascK_fin (by omega)] at hs
      have HS2 := Lib.hid hs
      clear hs HS
      go_wp2_with fail
      go_ret
      exact ⟨ret_bool (by rw [HS2.out]; simp; omega), HB.out⟩
end Go.Proofs.YtdeikpifflkabaaDoor

namespace Go.Proofs.YtdeikpifflkabaaDoor
open Go.RowKit
set_option linter.unusedVariables false
set_option linter.unusedSimpArgs false

set_option maxRecDepth 100000 in
set_option maxHeartbeats 2000000 in
theorem rsplit_any (n : Nat) (h2 : 2 ≤ n) (hn : n ≤ 1000000) (w : World) : Calls Tryd.prog 30 #[.int .i64 (n : Int)] w fun e w' => e = .returned (.int .i64 (splitN n : Int)) ∧ w' = w := by
  obtain ⟨S, hS⟩ : ∃ S, splitN n = S := ⟨_, rfl⟩
  have HS := Lib.hid hS
  rw [hS]
  clear hS
  go_enter Tryd.func30, Tryd.ntmps30
  go_wp2_with fail
  go_loop [3] (fun v => ∃ (k j : Nat), k = 2 ^ j ∧ k < n ∧ v = .int .i64 (k : Int)) (fun v => n - (intOf v).toNat)
  case atStart => exact ⟨1, 0, rfl, by omega, rfl⟩
  case round =>
    obtain ⟨k, j, hk, hkn, rfl⟩ := hrel
    have HK := Lib.hid hk
    have hk1 : 1 ≤ k := by rw [hk]; exact Nat.two_pow_pos _
    clear hk
    by_cases hlt : 2 * k < n
    · have e1 : decide (2 * (k : Int) < (n : Int)) = true := by simp; omega
      go_wp2_with fail
      go_round
      case rel => exact ⟨2 * k, j + 1, by rw [Nat.pow_succ, HK.out]; omega, hlt, by go_num⟩
      case measure => simp [intOf]; omega
    · have e1 : decide (2 * (k : Int) < (n : Int)) = false := by simp; omega
      go_wp2_with fail
      go_ret
      have : S = k := by
        have := splitN_of (n := n) (k := j) h2 (by rw [← HK.out]; exact hkn) (by rw [← HK.out]; omega)
        rw [HS.out] at this
        rw [this, HK.out]
      exact ⟨by rw [this]; rfl, rfl⟩
end Go.Proofs.YtdeikpifflkabaaDoor

namespace Go.Proofs.YtdeikpifflkabaaDoor
open Go.RowKit
set_option linter.unusedVariables false
set_option linter.unusedSimpArgs false

set_option maxRecDepth 100000 in
set_option maxHeartbeats 2000000 in
theorem few_any (A : Option Addr) (l : List Ent) (c : Nat) (w : World) (hl : l.length ≤ maxLen) (hA : Sl w w.heap.size 2 A l.length (eCells l)) :
    Calls Tryd.prog 9 #[.slice A l.length c] w fun e w' => ∃ b, e = .returned (.bool b) ∧ (b = true → l.length ≤ 70 ∧ Fits l) ∧ Below w.heap.size w w' := by
  have HA := Lib.hid hA
  unfold maxLen at hl
  clear hA
  go_enter Tryd.func9, Tryd.ntmps9
  go_wp2_with fail
  go_loopw [3] (fun i wr => ∃ (k : Nat), k ≤ l.length ∧ k ≤ 71 ∧ i = .int .i64 k ∧ Fits (l.take k) ∧ Below w.heap.size w wr) (fun i _ => l.length - (intOf i).toNat)
  case atStart => exact ⟨0, by omega, by omega, rfl, by intro e he; simp at he, Below.refl _ _⟩
  case round =>
    obtain ⟨k, hk, hk7, rfl, hs, hbel⟩ := hrel
    have hz := hbel.size
    have HS := Lib.hid hs
    have HB := Lib.hid hbel
    clear hs hbel
    by_cases hlt : k < l.length
    · have hlt' : (k : Int) < (l.length : Int) := by omega
      by_cases h70 : k ≤ 70
      · have h70' : decide ((k : Int) ≤ 70) = true := decide_eq_true (by omega)
        obtain ⟨b, off, ka, va, rfl, hb, hca, hcv, hla⟩ := (HA.out.below HB.out).ent hlt
        have HLA := Lib.hid hla
        clear hla
        by_cases h1 : 300 < ka.size
        · have e1 : decide ((300 : Int) < (ka.size : Int)) = true := decide_eq_true (by omega)
          go_wp2_with fail
          go_ret
          exact ⟨false, rfl, fun h => (by cases h), by have hbel := HB.out; (first | assumption | (repeat (first | exact Below.refl _ _ | assumption | apply Below.drew | apply below_drewN | (refine Below.setCell ?_ (by (try simp) <;> omega) _) | (refine Below.alloc ?_ (by (try simp) <;> omega) _))))⟩
        · have e1 : decide ((300 : Int) < (ka.size : Int)) = false := decide_eq_false (by omega)
          by_cases h2 : 300 < va.size
          · have e2 : decide ((300 : Int) < (va.size : Int)) = true := decide_eq_true (by omega)
            go_wp2_with fail
            go_ret
            exact ⟨false, rfl, fun h => (by cases h), by have hbel := HB.out; (first | assumption | (repeat (first | exact Below.refl _ _ | assumption | apply Below.drew | apply below_drewN | (refine Below.setCell ?_ (by (try simp) <;> omega) _) | (refine Below.alloc ?_ (by (try simp) <;> omega) _))))⟩
          · have e2 : decide ((300 : Int) < (va.size : Int)) = false := decide_eq_false (by omega)
            go_wp2_with fail
            go_roundw
            case rel =>
              refine ⟨k + 1, by omega, by omega, by go_num, fun e he => ?_, by have hbel := HB.out; (first | assumption | (repeat (first | exact Below.refl _ _ | assumption | apply Below.drew | apply below_drewN | (refine Below.setCell ?_ (by (try simp) <;> omega) _) | (refine Below.alloc ?_ (by (try simp) <;> omega) _))))⟩
              rw [take_at HLA.out, List.mem_append] at he
              rcases he with he | he
              · exact HS.out e he
              · rw [List.mem_singleton] at he
                subst he
                exact ⟨by simp only; omega, by simp only; omega⟩
            case measure => simp [intOf]; omega
      · have h70' : decide ((k : Int) ≤ 70) = false := decide_eq_false (by omega)
        have h71 : decide ((l.length : Int) ≤ 70) = false := decide_eq_false (by omega)
        go_wp2_with fail
        go_ret
        exact ⟨false, by simp, fun h => (by cases h), by have hbel := HB.out; (first | assumption | (repeat (first | exact Below.refl _ _ | assumption | apply Below.drew | apply below_drewN | (refine Below.setCell ?_ (by (try simp) <;> omega) _) | (refine Below.alloc ?_ (by (try simp) <;> omega) _))))⟩
    · obtain rfl : k = l.length := by omega
      have hs := HS.out
      rw [List.take_length] at hs
      have HS2 := Lib.hid hs
      clear hs HS
      go_wp2_with fail
      go_ret
      exact ⟨_, rfl, fun h => ⟨by simp at h; omega, HS2.out⟩, by have hbel := HB.out; (first | assumption | (repeat (first | exact Below.refl _ _ | assumption | apply Below.drew | apply below_drewN | (refine Below.setCell ?_ (by (try simp) <;> omega) _) | (refine Below.alloc ?_ (by (try simp) <;> omega) _))))⟩

set_option maxRecDepth 100000 in
set_option maxHeartbeats 2000000 in
theorem rright_any (A : Option Addr) (l : List Ent) (c : Nat) (w : World) (hl : l.length ≤ 70) (hf : Fits l) (hA : Sl w w.heap.size 2 A l.length (eCells l)) :
    Calls Tryd.prog 21 #[.slice A l.length c] w fun e w' => e = .returned (.bool (ascK l)) ∧ Below w.heap.size w w' := by
  have HA := Lib.hid hA
  have HF := Lib.hid hf
  clear hA hf
  go_enter Tryd.func21, Tryd.ntmps21
  go_wp2_with fail
  go_loopw [3] (fun i wr => ∃ (k : Nat), k ≤ l.length ∧ i = .int .i64 k ∧ ascK l = ascK (l.drop (k - 1)) ∧ Below w.heap.size w wr) (fun i _ => l.length - (intOf i).toNat)
  case atStart => exact ⟨0, by omega, rfl, by simp, Below.refl _ _⟩
  case round =>
    obtain ⟨k, hk, rfl, hs, hbel⟩ := hrel
    have hz := hbel.size
    have HS := Lib.hid hs
    have HB := Lib.hid hbel
    clear hs hbel
    by_cases hlt : k < l.length
    · have hlt' : (k : Int) < (l.length : Int) := by omega
      obtain ⟨b, off, ka, va, rfl, hb, hca, hcv, hla⟩ := (HA.out.below HB.out).ent hlt
      have hfit := HF.out _ (List.mem_of_getElem? hla)
      simp only at hfit
      have e1 : decide ((4096 : Int) < (ka.size : Int)) = false := by simp; omega
      have e2 : decide ((4096 : Int) < (va.size : Int)) = false := by simp; omega
      by_cases hk0 : k = 0
      · subst hk0
        clear hla hfit
        simp only [Nat.zero_mul, Nat.add_zero] at hca hcv
        go_wp2_with fail
        go_quiet (fail)
        go_wp2_with fail
        go_roundw
        case rel => exact ⟨0 + 1, by omega, by go_num, by rw [HS.out], by have hbel := HB.out; (first | assumption | (repeat (first | exact Below.refl _ _ | assumption | apply Below.drew | apply below_drewN | (refine Below.setCell ?_ (by (try simp) <;> omega) _) | (refine Below.alloc ?_ (by (try simp) <;> omega) _))))⟩
        case measure => simp [intOf]; omega
      · obtain ⟨j, rfl⟩ : ∃ j, k = j + 1 := ⟨k - 1, by omega⟩
        obtain ⟨b', off', kb, vb, hAe, hb', hcb, _, hlb⟩ := (HA.out.below HB.out).ent (k := j) (by omega)
        injection hAe with hAe
        injection hAe with h1 h2
        subst h1 h2
        have hs := HS.out
        rw [show j + 1 - 1 = j from rfl, ascK_step hlb hla] at hs
        have HS2 := Lib.hid hs
        clear hs HS hla hlb hfit
        have e3 : IntKind.i64.wrap (j : Int) = (j : Int) := IntWalk.i64_in _ (by omega)
        have e4 : ((j : Int) + 1).toNat = j + 1 := by omega
        have e5 : (j : Int) < (l.length : Int) := by omega
        have e6 : (j : Int) + 1 < (l.length : Int) := by omega
        have e7 : (0 : Int) ≤ (j : Int) + 1 := by omega
        have e8 : decide ((0 : Int) < (j : Int) + 1) = true := decide_eq_true (by omega)
        cases hlk : ltK kb ka with
        | true =>
          have e9 : Op.bytesLess kb.toList ka.toList = true := hlk
          rw [hlk, Bool.true_and] at HS2
          go_wp2_with fail
          go_quiet (fail)
          go_wp2_with fail
          go_roundw
          case rel => exact ⟨j + 1 + 1, by omega, by go_num, HS2.out, by have hbel := HB.out; (first | assumption | (repeat (first | exact Below.refl _ _ | assumption | apply Below.drew | apply below_drewN | (refine Below.setCell ?_ (by (try simp) <;> omega) _) | (refine Below.alloc ?_ (by (try simp) <;> omega) _))))⟩
          case measure => simp [intOf]; omega
        | false =>
          have e9 : Op.bytesLess kb.toList ka.toList = false := hlk
          rw [hlk, Bool.false_and] at HS2
          go_wp2_with fail
          go_quiet (fail)
          go_wp2_with fail
          go_ret
          exact ⟨ret_bool HS2.out.symm, by have hbel := HB.out; (first | assumption | (repeat (first | exact Below.refl _ _ | assumption | apply Below.drew | apply below_drewN | (refine Below.setCell ?_ (by (try simp) <;> omega) _) | (refine Below.alloc ?_ (by (try simp) <;> omega) _))))⟩
    · obtain rfl : k = l.length := by omega
      have hs := HS.out
      rw [ascK_fin (by omega)] at hs
      have HS2 := Lib.hid hs
      clear hs HS
      go_wp2_with fail
      go_ret
      exact ⟨ret_bool (by rw [HS2.out]), HB.out⟩

/-! Where a list is split. -/
theorem bl5_lt : ∀ (f x : Nat), x < 2 ^ f → x < 2 ^ Lib.bitLenAux f x
  | 0, x, h => by simp at h; subst h; simp [Lib.bitLenAux]
  | f + 1, x, h => by
    unfold Lib.bitLenAux
    split
    · rename_i h0; subst h0; simp
    · have := bl5_lt f (x / 2) (by rw [Nat.pow_succ] at h; omega)
      rw [Nat.add_comm 1, Nat.pow_succ]
      omega
theorem bl5_ge : ∀ (f x : Nat), x ≠ 0 → x < 2 ^ f → 2 ^ Lib.bitLenAux f x ≤ 2 * x
  | 0, x, h0, h => by simp at h; omega
  | f + 1, x, h0, h => by
    unfold Lib.bitLenAux
    rw [if_neg h0]
    by_cases h1 : x / 2 = 0
    · rw [h1]
      have e : Lib.bitLenAux f 0 = 0 := by cases f <;> simp [Lib.bitLenAux]
      rw [e]
      omega
    · have := bl5_ge f (x / 2) h1 (by rw [Nat.pow_succ] at h; omega)
      rw [Nat.add_comm 1, Nat.pow_succ]
      omega
theorem split_len {n : Nat} (h2 : 2 ≤ n) (hn : n ≤ 1000000) : ∃ k, Lib.bitLen (n - 1) = k + 1 ∧ splitN n = 2 ^ k ∧ k ≤ 20 := by
  have h1 : n - 1 < 2 ^ Lib.bitLen (n - 1) := bl5_lt 64 (n - 1) (by omega)
  have h3 : 2 ^ Lib.bitLen (n - 1) ≤ 2 * (n - 1) := bl5_ge 64 (n - 1) (by omega) (by omega)
  obtain ⟨L, hL⟩ : ∃ L, Lib.bitLen (n - 1) = L := ⟨_, rfl⟩
  rw [hL] at h1 h3 ⊢
  cases L with
  | zero => simp at h1; omega
  | succ k =>
    rw [Nat.pow_succ] at h1 h3
    refine ⟨k, rfl, splitN_of h2 (by omega) (by omega), ?_⟩
    refine Nat.le_of_not_lt fun hk => ?_
    have : 2 ^ 21 ≤ 2 ^ k := Nat.pow_le_pow_right (by omega) hk
    omega
set_option maxRecDepth 100000 in
set_option maxHeartbeats 2000000 in
theorem split_any (n : Nat) (h2 : 2 ≤ n) (hn : n ≤ 1000000) (w : World) : Calls Tryd.prog 46 #[.int .i64 (n : Int)] w fun e w' => e = .returned (.int .i64 (splitN n : Int)) ∧ w' = w := by
  obtain ⟨k, hb, hs, hk⟩ := split_len h2 hn
  have hlen := Tryd.bits_Len ((n : Int) - 1) w (by omega) (by omega)
  rw [show ((n : Int) - 1).toNat = n - 1 by omega, hb] at hlen
  have HL := Lib.hid hlen
  have HS := Lib.hid hs
  have e1 : IntKind.i64.wrap (k : Int) = (k : Int) := IntWalk.i64_in _ (by omega)
  have e2 : (k : Int) < 64 := by omega
  clear hlen hb hs
  go_enter Tryd.func46, Tryd.ntmps46
  go_wp2_with fail
  with_reducible refine HL.out.mono ?_
  rintro e w1 ⟨rfl, rfl⟩
  go_wp2_with fail
  go_ret
  refine ⟨?_, rfl⟩
  rw [HS.out]
  have hw : ∀ j : Fin 21, wrap64 ((2 : Int) ^ j.val) = (2 : Int) ^ j.val := by decide +kernel
  have hk' := hw ⟨k, by omega⟩
  simp only at hk'
  show Ending.returned (.int .i64 (wrap64 (2 ^ k))) = _
  rw [hk']
  push_cast
  rfl
end Go.Proofs.YtdeikpifflkabaaDoor

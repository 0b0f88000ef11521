/- What this text proves: the contracts of both numbers: the first eight bytes of a hash, read as a number. The condition is the hash's length. -/
import Derived.Test.YtcnmoallgfdomaaDoorSgWord
import Derived.Test.YtcnmoallgfdomaaDoorPowKeyRef
namespace Go.Proofs.YtcnmoallgfdomaaDoor
open Go.RowKit
set_option linter.unusedVariables false
set_option linter.unusedSimpArgs false

def numP (h : List UInt8) (k : Nat) : Nat := (h.take k).foldl (fun n c => n * 256 + c.toNat) 0
def numN (h : List UInt8) : Nat := numP h 8 % QQ
theorem numP_succ {h : List UInt8} {k : Nat} {c : UInt8} (hc : h[k]? = some c) : numP h (k + 1) = numP h k * 256 + c.toNat := by
  unfold numP
  rw [take_at hc, List.foldl_append]
  rfl
theorem numP_lt (h : List UInt8) : ∀ k, k ≤ h.length → numP h k < 256 ^ k
  | 0, _ => by simp [numP]
  | k + 1, hk => by
    obtain ⟨c, hc⟩ : ∃ c, h[k]? = some c := ⟨_, List.getElem?_eq_getElem (by omega)⟩
    rw [numP_succ hc, Nat.pow_succ]
    have := numP_lt h k (by omega)
    have := c.toNat_lt
    omega
theorem numN_lt (h : List UInt8) : numN h < QQ := Nat.mod_lt _ (by decide)
theorem ofInt64_nat (x : Nat) : BitVec.ofInt 64 (x : Int) = BitVec.ofNat 64 x := by simp
theorem or_byte (N c : Nat) (hN : N < 72057594037927936) (hc : c < 256) : bits .or .u64 ((N * 256 : Nat) : Int) (c : Int) = ((N * 256 + c : Nat) : Int) := by
  have h1 : N * 256 < 18446744073709551616 := by omega
  have hor : N * 256 ||| c = N * 256 + c := by
    have := Nat.two_pow_add_eq_or_of_lt (i := 8) hc N
    rw [show (2 : Nat) ^ 8 = 256 from rfl, Nat.mul_comm] at this
    exact this.symm
  have e : bits .or .u64 ((N * 256 : Nat) : Int) (c : Int) = IntKind.u64.wrap (((BitVec.ofInt 64 ((N * 256 : Nat) : Int)) ||| (BitVec.ofInt 64 (c : Int))).toNat : Int) := by rfl
  rw [e, ofInt64_nat, ofInt64_nat, BitVec.toNat_or, BitVec.toNat_ofNat, BitVec.toNat_ofNat, Nat.mod_eq_of_lt h1, Nat.mod_eq_of_lt (by omega), hor]
  have : IntKind.u64.wrap ((N * 256 + c : Nat) : Int) = ((N * 256 + c : Nat) : Int) % 18446744073709551616 := by rfl
  rw [this]
  omega

set_option maxRecDepth 100000 in
set_option maxHeartbeats 2000000 in
theorem number_any (h : List UInt8) (w : World) (hh : h.length = 32) :
    Calls Tryd.prog 20 #[.agg (bts h).toArray] w fun e w' => e = .returned (.int .u64 (numN h : Nat)) ∧ Below w.heap.size w w' := by
  have HL := Lib.hid hh
  have F0 := Lib.hid (Bk.new w 40 (bts h).toArray)
  have L0 : Hid (Below w.heap.size w (w.alloc (.cells (bts h).toArray 40))) := Lib.hid (by (first | assumption | (repeat (first | exact Below.refl _ _ | assumption | apply Below.drew | apply below_drewN | (refine Below.setCell ?_ (by (try simp) <;> omega) _) | (refine Below.alloc ?_ (by (try simp) <;> omega) _)))))
  go_enter Tryd.func20, Tryd.ntmps20
  go_upto_region 1 with fail
  obtain ⟨go, hgo⟩ : ∃ x, w.heap.size = x := ⟨_, rfl⟩
  obtain ⟨w1, hw1⟩ : ∃ x, w.alloc (.cells (bts h).toArray 40) = x := ⟨_, rfl⟩
  rw [hw1] at F0 L0 ⊢
  rw [hgo] at F0 ⊢
  clear hw1
  go_wp2_with fail
  go_loopw [3, 8] (fun n i wr => ∃ (k : Nat), k ≤ 8 ∧ i = .int .i64 k ∧ n = .int .u64 (numP h k : Nat) ∧ wr = w1) (fun _ i _ => 8 - (intOf i).toNat)
  case atStart => exact ⟨0, by omega, rfl, rfl, rfl⟩
  case round =>
    obtain ⟨k, hk, rfl, rfl, rfl⟩ := hrel
    have hb := numP_lt h k (by rw [HL.out]; omega)
    by_cases hlt : k < 8
    · have hlt' : (k : Int) < 8 := by omega
      obtain ⟨c, hc⟩ : ∃ c, h[k]? = some c := ⟨_, List.getElem?_eq_getElem (by rw [HL.out]; omega)⟩
      have hcell : wr.cell? ⟨go, k, none⟩ = some (.int .u8 (c.toNat : Int)) := by rw [F0.out.cell, List.getElem?_toArray]; exact bts_at hc
      have hN : numP h k < 72057594037927936 := Nat.lt_of_lt_of_le hb (by
        have : (256 : Nat) ^ k ≤ 256 ^ 7 := Nat.pow_le_pow_right (by decide) (by omega)
        exact this)
      have hcb := c.toNat_lt
      have HS := Lib.hid (numP_succ hc)
      obtain ⟨N, hNe⟩ : ∃ N, numP h k = N := ⟨_, rfl⟩
      obtain ⟨x, hx⟩ : ∃ x, c.toNat = x := ⟨_, rfl⟩
      rw [hNe] at hN HS ⊢
      rw [hx] at hcell hcb HS
      have ho := or_byte N x hN hcb
      obtain ⟨y, hy⟩ : ∃ y : Int, (N : Int) * 256 = y := ⟨_, rfl⟩
      have ho' : bits .or .u64 y (x : Int) = ((N * 256 + x : Nat) : Int) := by rw [← hy, ← ho]; congr 1
      have hyw : IntKind.u64.wrap y = y := by
        have : IntKind.u64.wrap y = y % 18446744073709551616 := by rfl
        omega
      have hyb : 0 ≤ y ∧ y < 18446744073709551616 := by omega
      have hy1 := hyb.1
      have hy2 := hyb.2
      clear hNe hx hc hb ho hyb
      go_wp2_with fail
      go_roundw
      case rel => exact ⟨k + 1, by omega, by go_num, by rw [HS.out]; congr 1; omega, trivial⟩
      case measure => simp [intOf]; omega
    · obtain rfl : k = 8 := by omega
      have HN : Hid (((numP h 8 : Nat) : Int) % 2305843009213693950 = (numN h : Nat)) := Lib.hid (by unfold numN QQ; omega)
      obtain ⟨N, hNe⟩ : ∃ N, numP h 8 = N := ⟨_, rfl⟩
      have hN : N < 18446744073709551616 := by rw [← hNe]; exact Nat.lt_of_lt_of_le hb (by decide)
      rw [hNe] at HN ⊢
      clear hNe hb
      go_wp2_with fail
      go_ret
      exact ⟨by rw [← HN.out]; rfl, L0.out⟩

set_option maxRecDepth 100000 in
set_option maxHeartbeats 2000000 in
theorem rnumber_any (h : List UInt8) (w : World) (hh : h.length = 32) :
    Calls Tryd.prog 24 #[.agg (bts h).toArray] w fun e w' => e = .returned (.int .u64 (numN h : Nat)) ∧ Below w.heap.size w w' := by
  have HL := Lib.hid hh
  have F0 := Lib.hid (Bk.new w 40 (bts h).toArray)
  have L0 : Hid (Below w.heap.size w (w.alloc (.cells (bts h).toArray 40))) := Lib.hid (by (first | assumption | (repeat (first | exact Below.refl _ _ | assumption | apply Below.drew | apply below_drewN | (refine Below.setCell ?_ (by (try simp) <;> omega) _) | (refine Below.alloc ?_ (by (try simp) <;> omega) _)))))
  go_enter Tryd.func24, Tryd.ntmps24
  go_upto_region 1 with fail
  obtain ⟨go, hgo⟩ : ∃ x, w.heap.size = x := ⟨_, rfl⟩
  obtain ⟨w1, hw1⟩ : ∃ x, w.alloc (.cells (bts h).toArray 40) = x := ⟨_, rfl⟩
  rw [hw1] at F0 L0 ⊢
  rw [hgo] at F0 ⊢
  clear hw1
  go_wp2_with fail
  go_loopw [3, 4] (fun n i wr => ∃ (k : Nat), k ≤ 8 ∧ i = .int .i64 k ∧ n = .int .u64 (numP h k : Nat) ∧ wr = w1) (fun _ i _ => 8 - (intOf i).toNat)
  case atStart => exact ⟨0, by omega, rfl, rfl, rfl⟩
  case round =>
    obtain ⟨k, hk, rfl, rfl, rfl⟩ := hrel
    have hb := numP_lt h k (by rw [HL.out]; omega)
    by_cases hlt : k < 8
    · have hlt' : (k : Int) < 8 := by omega
      obtain ⟨c, hc⟩ : ∃ c, h[k]? = some c := ⟨_, List.getElem?_eq_getElem (by rw [HL.out]; omega)⟩
      have hcell : wr.cell? ⟨go, k, none⟩ = some (.int .u8 (c.toNat : Int)) := by rw [F0.out.cell, List.getElem?_toArray]; exact bts_at hc
      have hN : numP h k < 72057594037927936 := Nat.lt_of_lt_of_le hb (by
        have : (256 : Nat) ^ k ≤ 256 ^ 7 := Nat.pow_le_pow_right (by decide) (by omega)
        exact this)
      have hcb := c.toNat_lt
      have HS := Lib.hid (numP_succ hc)
      obtain ⟨N, hNe⟩ : ∃ N, numP h k = N := ⟨_, rfl⟩
      obtain ⟨x, hx⟩ : ∃ x, c.toNat = x := ⟨_, rfl⟩
      rw [hNe] at hN HS ⊢
      rw [hx] at hcell hcb HS
      have ho := or_byte N x hN hcb
      obtain ⟨y, hy⟩ : ∃ y : Int, (N : Int) * 256 = y := ⟨_, rfl⟩
      have ho' : bits .or .u64 y (x : Int) = ((N * 256 + x : Nat) : Int) := by rw [← hy, ← ho]; congr 1
      have hyw : IntKind.u64.wrap y = y := by
        have : IntKind.u64.wrap y = y % 18446744073709551616 := by rfl
        omega
      have hyb : 0 ≤ y ∧ y < 18446744073709551616 := by omega
      have hy1 := hyb.1
      have hy2 := hyb.2
      clear hNe hx hc hb ho hyb
      go_wp2_with fail
      go_roundw
      case rel => exact ⟨k + 1, by omega, by go_num, by rw [HS.out]; congr 1; omega, trivial⟩
      case measure => simp [intOf]; omega
    · obtain rfl : k = 8 := by omega
      have HN : Hid (((numP h 8 : Nat) : Int) % 2305843009213693950 = (numN h : Nat)) := Lib.hid (by unfold numN QQ; omega)
      obtain ⟨N, hNe⟩ : ∃ N, numP h 8 = N := ⟨_, rfl⟩
      have hN : N < 18446744073709551616 := by rw [← hNe]; exact Nat.lt_of_lt_of_le hb (by decide)
      rw [hNe] at HN ⊢
      clear hNe hb
      go_wp2_with fail
      go_ret
      exact ⟨by rw [← HN.out]; rfl, L0.out⟩
end Go.Proofs.YtcnmoallgfdomaaDoor

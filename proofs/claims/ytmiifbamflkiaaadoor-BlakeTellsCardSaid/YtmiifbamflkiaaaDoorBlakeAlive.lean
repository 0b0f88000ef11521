/- What this text proves: the live question's answer. The condition is that the package's table is as its text lays it. -/
import Derived.Test.YtmiifbamflkiaaaDoorBlakeText
import Derived.Lib.SlBytesConst
namespace Go.Proofs.YtmiifbamflkiaaaDoor
open Go.RowKit
set_option linter.unusedVariables false
set_option linter.unusedSimpArgs false

def aliveS : List UInt8 := [53, 48, 56, 99, 53, 101, 56, 99, 51, 50, 55, 99, 49, 52, 101, 50, 101, 49, 97, 55, 50, 98, 97, 51, 52, 101, 101, 98, 52, 53, 50, 102, 51, 55, 52, 53, 56, 98, 50, 48, 57, 101, 100, 54, 51, 97, 50, 57, 52, 100, 57, 57, 57, 98, 52, 99, 56, 54, 54, 55, 53, 57, 56, 50]
def abcL : List UInt8 := [97, 98, 99]
set_option maxRecDepth 100000 in
theorem alive_eq : textF (digF abcL) = aliveS := by decide +kernel

set_option maxRecDepth 100000 in
set_option maxHeartbeats 1000000 in
theorem alive_any (w : World) (hr : Roots w) (h0 : 0 < w.heap.size) :
    Calls Tryd.prog 8 #[] w fun e w' => e = .returned (.bool true) ∧ Below w.heap.size w w' := by
  have HRt := Lib.hid hr
  clear hr
  have HE : Hid ((textF (digF abcL) == aliveS) = true) := Lib.hid (by rw [alive_eq]; exact beq_self_eq_true _)
  have hcv : (convert 22 22 (.slice (some ⟨w.heap.size, 0, none⟩) 3 3)).run Tryd.prog (w.alloc (.cells #[.int .u8 97, .int .u8 98, .int .u8 99] 5)) = .ok (.slice (some ⟨w.heap.size, 0, none⟩) 3 3) (w.alloc (.cells #[.int .u8 97, .int .u8 98, .int .u8 99] 5 (3, 4))) := Lib.run_convert_bytes_const w 22 5 #[.int .u8 97, .int .u8 98, .int .u8 99] 3 3 Tryd.underlying22 Tryd.underlying5
  go_enter Tryd.func8, Tryd.ntmps8
  go_wp2_with fail
  obtain ⟨w1, hw1⟩ : ∃ x, w.alloc (.cells #[.int .u8 97, .int .u8 98, .int .u8 99] 5 (3, 4)) = x := ⟨_, rfl⟩
  have L1 : Below w.heap.size w (w.alloc (.cells #[.int .u8 97, .int .u8 98, .int .u8 99] 5 (3, 4))) := (by (first | assumption | (repeat (first | exact Below.refl _ _ | assumption | apply Below.drew | apply below_drewN | (refine Below.setCell ?_ (by (try simp) <;> omega) _) | (refine Below.alloc ?_ (by (try simp) <;> omega) _)))))
  have R1 : Roots (w.alloc (.cells #[.int .u8 97, .int .u8 98, .int .u8 99] 5 (3, 4))) := World.rangeAt_alloc HRt.out _
  have z1 : (w.alloc (.cells #[.int .u8 97, .int .u8 98, .int .u8 99] 5 (3, 4))).heap.size = w.heap.size + 1 := by simp
  have hC : ∀ j, (w.alloc (.cells #[.int .u8 97, .int .u8 98, .int .u8 99] 5 (3, 4))).cell? ⟨w.heap.size, j, none⟩ = (bts abcL)[j]? := fun j => by
    rw [cell_of_row _ _ j #[.int .u8 97, .int .u8 98, .int .u8 99] 5 (3, 4) (heap_alloc_new w _), List.getElem?_toArray]
    rfl
  rw [hw1] at L1 R1 z1 hC ⊢
  clear hw1 hcv
  have hS : Sl w1 w1.heap.size 1 (some ⟨w.heap.size, 0, none⟩) abcL.length (bts abcL) := ⟨rfl, fun _ => ⟨w.heap.size, 0, rfl, by omega, fun j u hu => by rw [Nat.zero_add, hC]; exact hu⟩⟩
  have hd : Calls Tryd.prog 9 #[.slice (some ⟨w.heap.size, 0, none⟩) 3 3] w1 _ := digest_any _ abcL 3 w1 R1 (by unfold maxLen abcL; simp) hS (by omega)
  with_reducible refine hd.mono ?_
  rintro e w2 ⟨rfl, hb2⟩
  have HL2 : Hid (Below w.heap.size w w2) := Lib.hid (L1.trans (hb2.mono (by omega)))
  clear hb2 hS hC R1 z1 L1
  obtain ⟨D, hD⟩ : ∃ D, digF abcL = D := ⟨_, rfl⟩
  rw [hD] at HE ⊢
  have hDl : D.length = 32 := by rw [← hD, digF_len]
  clear hD
  go_wp2_with fail
  with_reducible refine (text_any D hDl w2).mono ?_
  rintro e w3 ⟨rfl, hb3⟩
  have HL3 : Hid (Below w.heap.size w w3) := Lib.hid (HL2.out.trans (hb3.mono HL2.out.size))
  go_wp2_with fail
  go_ret
  exact ⟨ret_bool HE.out, HL3.out⟩
end Go.Proofs.YtmiifbamflkiaaaDoor

/- What this text proves: the contracts of blake.Sum and of the methods on no state. The conditions are how the bytes lie in memory, and that the package's table is as its text lays it. -/
import Derived.Test.YtdeikpifflkabaaDoorBlakeDig
namespace Go.Proofs.YtdeikpifflkabaaDoor
open Go.RowKit
set_option linter.unusedVariables false
set_option linter.unusedSimpArgs false

set_option maxRecDepth 100000 in
set_option maxHeartbeats 1000000 in
theorem write_nil (A : Option Addr) (n c : Nat) (w : World) :
    Calls Tryd.prog 44 #[.pointer none, .slice A n c] w fun e w' => e = .returned (.tuple #[]) ∧ Below w.heap.size w w' := by
  go_enter Tryd.func44, Tryd.ntmps44
  go_wp2_with fail
  refine bodyPost_ret (results_none rfl _ _ _) rfl ?_
  exact ⟨rfl, (by (first | assumption | (repeat (first | exact Below.refl _ _ | assumption | apply Below.drew | apply below_drewN | (refine Below.setCell ?_ (by (try simp) <;> omega) _) | (refine Below.alloc ?_ (by (try simp) <;> omega) _)))))⟩

set_option maxRecDepth 100000 in
set_option maxHeartbeats 1000000 in
theorem sum_nil (w : World) :
    Calls Tryd.prog 45 #[.pointer none] w fun e w' => e = .returned (.agg (bts hash0).toArray) ∧ Below w.heap.size w w' := by
  have hzh := zero_hash
  go_enter Tryd.func45, Tryd.ntmps45
  go_upto_region 2 with fail
  have O1 := Bk.new w 26 (bts hash0).toArray
  have L1 : Below w.heap.size w (w.alloc (.cells (bts hash0).toArray 26)) := (by (first | assumption | (repeat (first | exact Below.refl _ _ | assumption | apply Below.drew | apply below_drewN | (refine Below.setCell ?_ (by (try simp) <;> omega) _) | (refine Below.alloc ?_ (by (try simp) <;> omega) _)))))
  obtain ⟨go, hgo⟩ : ∃ x, w.heap.size = x := ⟨_, rfl⟩
  obtain ⟨w1, hw1⟩ : ∃ x, w.alloc (.cells (bts hash0).toArray 26) = x := ⟨_, rfl⟩
  rw [hw1] at O1 L1 ⊢
  rw [hgo] at O1 L1 ⊢
  have HO1 := Lib.hid O1
  have HL1 := Lib.hid L1
  clear O1 L1 hw1
  have h0l : (bts hash0).length = 32 := by rw [bts_len, hash0_len]
  have hbl : Tryd.prog.built 26 [] = some (bts hash0).toArray := by kernel_rfl
  go_wp2_with (first
    | (refine wpList_val (by rfl) (run_build_at 26 _ (by with_reducible rfl) (bts hash0) (by exact hbl)) ?_)
    | (refine wpList_puts (by rfl) 26 _ _ (by with_reducible rfl) go 0 (by rfl) (bts hash0) (by rfl) 26 (bts hash0) (by exact HO1.out) 32 h0l (by rw [h0l]; omega) hi_hash bts_all ?_; intro w9 hb_ hm_ hz_; rw [put_all rfl] at hb_; have HM9 := Lib.hid hm_; have HR9 := Lib.hid hb_; clear hb_ hm_ hz_))
  refine bodyPost_ret (results_cell_row rfl _ _ go 26 (bts hash0).toArray (0, 0) _ (by rfl) HR9.out Tryd.underlying26 rfl (by rw [hi_hash]; simp [h0l])) rfl ?_
  rw [hgo]
  have := HO1.out.lt
  exact ⟨rfl, HL1.out.trans (HM9.out.to_below (by omega) (fun k _ e => by omega))⟩

set_option maxRecDepth 100000 in
set_option maxHeartbeats 2000000 in
theorem digest_any (A : Option Addr) (l : List UInt8) (c : Nat) (w : World) (hr : Roots w) (hl : l.length ≤ maxLen) (hA : Sl w w.heap.size 1 A l.length (bts l)) (h0 : 0 < w.heap.size) :
    Calls Tryd.prog 24 #[.slice A l.length c] w fun e w' => e = .returned (.agg (bts (digF l)).toArray) ∧ Below w.heap.size w w' := by
  have hzh := zero_hash
  have HSl := Lib.hid hA
  have HRt := Lib.hid hr
  have hlen := hl
  clear hA hr
  go_enter Tryd.func24, Tryd.ntmps24
  go_upto_region 1 with fail
  have O1 := Bk.new w 26 (bts hash0).toArray
  have L1 : Below w.heap.size w (w.alloc (.cells (bts hash0).toArray 26)) := (by (first | assumption | (repeat (first | exact Below.refl _ _ | assumption | apply Below.drew | apply below_drewN | (refine Below.setCell ?_ (by (try simp) <;> omega) _) | (refine Below.alloc ?_ (by (try simp) <;> omega) _)))))
  obtain ⟨go, hgo⟩ : ∃ x, w.heap.size = x := ⟨_, rfl⟩
  obtain ⟨w1, hw1⟩ : ∃ x, w.alloc (.cells (bts hash0).toArray 26) = x := ⟨_, rfl⟩
  rw [hw1] at O1 L1 ⊢
  rw [hgo] at O1 L1 h0 HSl ⊢
  have hlt1 := O1.lt
  have HO1 := Lib.hid O1
  have HL1 := Lib.hid L1
  clear O1 L1 hw1
  have h0l : (bts hash0).length = 32 := by rw [bts_len, hash0_len]
  go_wp2_with fail
  with_reducible refine (new_any w1 (HRt.out.below HL1.out h0)).mono ?_
  rintro e w2 ⟨gs, rfl, hge, hbk, hbl⟩
  have hlt2 := hbk.lt
  have HL2 : Hid (Below go w w2) := Lib.hid (HL1.out.trans (hbl.mono (by omega)))
  have HB2 := Lib.hid hbk
  have HO2 := Lib.hid (HO1.out.below hbl (by omega))
  clear hbk hbl HO1 HL1
  go_wp2_with fail
  with_reducible refine (write_any gs BSt.new A l c w2 BSt.new_ok HB2.out (HRt.out.below HL2.out h0) (by omega) hlen (Src.of_sl (HSl.out.below HL2.out) (by omega))).mono ?_
  rintro e w3 ⟨rfl, hb3, hm3⟩
  have HO3 := Lib.hid (hm3.bk HO2.out (by omega))
  have HL3 : Hid (Below go w w3) := Lib.hid (HL2.out.trans (hm3.to_below (by omega) (fun k _ e => by omega)))
  have HB3 := Lib.hid hb3
  have hlt3 := hb3.lt
  clear hb3 hm3 HO2 HL2 HB2
  have hbl : (bts (digF l)).length = 32 := by rw [bts_len, digF_len]
  go_wp2_with fail
  with_reducible refine (sum_any gs (writeF BSt.new l) w3 (writeF_ok BSt.new_ok) HB3.out (HRt.out.below HL3.out h0) (by omega)).mono ?_
  rintro e w4 ⟨rfl, hb4⟩
  have HO4 := Lib.hid (HO3.out.below hb4 (by omega))
  have HL4 : Hid (Below go w w4) := Lib.hid (HL3.out.trans (hb4.mono (by omega)))
  have hlt4 := HO4.out.lt
  clear hb4 HO3 HL3 HB3
  go_wp2_with (refine wpList_puts (by rfl) 26 _ _ (by with_reducible rfl) go 0 (by rfl) (bts (digF l)) (by rfl) 26 (bts hash0) (by exact HO4.out) 32 hbl (by rw [h0l]; omega) hi_hash bts_all ?_; intro w9 hb_ hm_ hz_; rw [put_hash0 _ (digF_len l)] at hb_; have HM9 := Lib.hid hm_; have HR9 := Lib.hid hb_; clear hb_ hm_ hz_)
  refine bodyPost_ret (results_cell_row rfl _ _ go 26 (bts (digF l)).toArray (0, 0) _ (by rfl) HR9.out Tryd.underlying26 rfl (by rw [hi_hash]; simp [hbl])) rfl ?_
  rw [hgo]
  exact ⟨rfl, HL4.out.trans (HM9.out.to_below (by omega) (fun k _ e => by omega))⟩
end Go.Proofs.YtdeikpifflkabaaDoor

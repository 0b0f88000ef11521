/- What this text proves: the contracts of the wire.Reader's methods: Word, Number, Hash, Text, Count, End, NewReader. The conditions are how the reader lies in memory. -/
import Derived.Test.YtclnpglnomfjkaaDoorWireRdD
namespace Go.Proofs.YtclnpglnomfjkaaDoor
open Go.RowKit Go.Shelf
set_option linter.unusedVariables false
set_option linter.unusedSimpArgs false

/-- A reader: its bytes, or that it is broken. -/
def RdS (w : World) (g : Nat) : Option (List UInt8) → Prop
  | some l => Rs w g l false
  | none => ∃ l, Rs w g l true
/-- What a reading answers, and what is left. -/
def rstep (R : List UInt8 → Option (Value × List UInt8)) (zero : Value) : Option (List UInt8) → Value × Option (List UInt8)
  | none => (zero, none)
  | some l => match R l with
    | some x => (x.1, some x.2)
    | none => (zero, none)
def MP (w : World) (g : Nat) (x : Value × Option (List UInt8)) (e : Ending) (w' : World) : Prop := e = .returned x.1 ∧ RdS w' g x.2 ∧ w.grownBy w' (some g)
theorem ReadP.mp {w W w' : World} {g : Nat} {l : List UInt8} {R : List UInt8 → Option (Value × List UInt8)} {zero : Value} {e : Ending} (h : ReadP W g (R l) zero e w') (hb : Below w.heap.size w W) : MP w g (rstep R zero (some l)) e w' := by
  obtain ⟨hg, h⟩ := h
  have hg2 : w.grownBy w' (some g) := Lib.grownBy_trans (below_grown hb _) hg
  cases hr : R l with
  | some x =>
    rw [hr] at h
    have e2 : rstep R zero (some l) = (x.1, some x.2) := by simp [rstep, hr]
    rw [e2]
    exact ⟨h.1, h.2, hg2⟩
  | none =>
    rw [hr] at h
    obtain ⟨l', h1, h2⟩ := h
    have e2 : rstep R zero (some l) = (zero, none) := by simp [rstep, hr]
    rw [e2]
    exact ⟨h1, ⟨l', h2⟩, hg2⟩


theorem Bk.whole {w : World} {g : Nat} {t : TypeId} {cs : List Value} (h : Bk w g t cs.toArray) : w.rangeAt g 0 cs := fun j v hj => by rw [h.cell, Nat.zero_add, List.getElem?_toArray]; exact hj
theorem RdS.lt {w : World} {g : Nat} {s : Option (List UInt8)} (h : RdS w g s) : g < w.heap.size := by
  cases s with
  | some l => exact Rs.lt h
  | none => obtain ⟨l, h⟩ := h; exact h.lt
theorem RdS.old {w w' : World} {g : Nat} {s : Option (List UInt8)} (h : RdS w g s) (hb : Below w.heap.size w w') : RdS w' g s := by
  cases s with
  | some l => exact Rs.old h hb
  | none => obtain ⟨l, h⟩ := h; exact ⟨l, h.old hb⟩
theorem RdS.move {w w' : World} {g k : Nat} {s : Option (List UInt8)} (h : RdS w g s) (hg : w.grownBy w' (some k)) (hk : k ≠ g) (ht : ∀ cur, w.heap[k]? ≠ some (.cells cur 5 (0, 0))) : RdS w' g s := by
  cases s with
  | some l => exact Rs.move h hg hk ht
  | none => obtain ⟨l, h⟩ := h; exact ⟨l, h.move hg hk ht⟩

set_option maxHeartbeats 1000000 in
theorem brk_u64 (g : Nat) (fv : Value) (l : List UInt8) (w : World) (h : Rs w g l true) :
    Calls Tryd.prog 38 #[.pointer (some ⟨g, 0, none⟩), fv] w fun e w' => e = .returned (.int .u64 0) ∧ Below w.heap.size w w' := by
  obtain ⟨n0, hn0⟩ : ∃ n0, w.heap.size = n0 := ⟨_, rfl⟩
  obtain ⟨W, hW⟩ : ∃ W, (w.alloc (.cells #[.pointer (some ⟨g, 0, none⟩)] 44)).alloc (.cells #[.int .u64 0] 27) = W := ⟨_, rfl⟩
  have hbel : Below w.heap.size w W := by rw [← hW]; exact (by (first | assumption | (repeat (first | exact Below.refl _ _ | assumption | apply Below.drew | apply below_drewN | (refine Below.setCell ?_ (by (try simp) <;> omega) _) | (refine Below.alloc ?_ (by (try simp) <;> omega) _)))))
  have hR := h.old hbel
  have c1 : W.cell? ⟨g, 1, none⟩ = some (.bool true) := by obtain ⟨A, c, hk, _⟩ := hR; exact hk.cell 1
  have k0 : Bk W n0 44 #[.pointer (some ⟨g, 0, none⟩)] := by rw [← hW, ← hn0]; exact (Bk.new w _ _).alloc _
  have k1 : Bk W (n0 + 1) 27 #[.int .u64 0] := by rw [← hW, ← hn0]; have := Bk.new (w.alloc (.cells #[.pointer (some ⟨g, 0, none⟩)] 44)) 27 #[.int .u64 0]; simpa using this
  have HB := Lib.hid hbel
  have HK1 := Lib.hid k1
  have d0 : W.cell? ⟨n0, 0, none⟩ = some (.pointer (some ⟨g, 0, none⟩)) := k0.cell 0
  have d1 : W.cell? ⟨n0 + 1, 0, none⟩ = some (.int .u64 0) := k1.cell 0
  have z1 := k1.frozen 0
  clear h hbel hR k0 k1
  go_enter_defers Tryd.func38, Tryd.ntmps38
  go_wp2_with fail
  have dx : (W.setCell ⟨n0 + 1, 0, none⟩ (.int .u64 0)).cell? ⟨n0 + 1, 0, none⟩ = some (.int .u64 0) := (HK1.out.set_ 0 (.int .u64 0)).cell 0
  have hfin : Below w.heap.size w (W.setCell ⟨n0 + 1, 0, none⟩ (.int .u64 0)) := HB.out.setCell (by show w.heap.size ≤ n0 + 1; omega) _
  obtain ⟨wf, hwf⟩ : ∃ wf, W.setCell ⟨n0 + 1, 0, none⟩ (.int .u64 0) = wf := ⟨_, rfl⟩
  rw [hwf] at dx hfin ⊢
  clear hwf
  simp [bodyPostD, Go.Leaves, settle, results, Tryd.results38, go_sem, dx]
  exact hfin

set_option maxHeartbeats 1000000 in
theorem brk_str (g : Nat) (fv : Value) (l : List UInt8) (w : World) (h : Rs w g l true) :
    Calls Tryd.prog 45 #[.pointer (some ⟨g, 0, none⟩), fv] w fun e w' => e = .returned (.string ⟨#[]⟩) ∧ Below w.heap.size w w' := by
  obtain ⟨n0, hn0⟩ : ∃ n0, w.heap.size = n0 := ⟨_, rfl⟩
  obtain ⟨W, hW⟩ : ∃ W, (w.alloc (.cells #[.pointer (some ⟨g, 0, none⟩)] 44)).alloc (.cells #[.string ⟨#[]⟩] 9) = W := ⟨_, rfl⟩
  have hbel : Below w.heap.size w W := by rw [← hW]; exact (by (first | assumption | (repeat (first | exact Below.refl _ _ | assumption | apply Below.drew | apply below_drewN | (refine Below.setCell ?_ (by (try simp) <;> omega) _) | (refine Below.alloc ?_ (by (try simp) <;> omega) _)))))
  have hR := h.old hbel
  have c1 : W.cell? ⟨g, 1, none⟩ = some (.bool true) := by obtain ⟨A, c, hk, _⟩ := hR; exact hk.cell 1
  have k0 : Bk W n0 44 #[.pointer (some ⟨g, 0, none⟩)] := by rw [← hW, ← hn0]; exact (Bk.new w _ _).alloc _
  have k1 : Bk W (n0 + 1) 9 #[.string ⟨#[]⟩] := by rw [← hW, ← hn0]; have := Bk.new (w.alloc (.cells #[.pointer (some ⟨g, 0, none⟩)] 44)) 9 #[.string ⟨#[]⟩]; simpa using this
  have HB := Lib.hid hbel
  have HK1 := Lib.hid k1
  have d0 : W.cell? ⟨n0, 0, none⟩ = some (.pointer (some ⟨g, 0, none⟩)) := k0.cell 0
  have d1 : W.cell? ⟨n0 + 1, 0, none⟩ = some (.string ⟨#[]⟩) := k1.cell 0
  have z1 := k1.frozen 0
  clear h hbel hR k0 k1
  go_enter_defers Tryd.func45, Tryd.ntmps45
  go_wp2_with fail
  have dx : (W.setCell ⟨n0 + 1, 0, none⟩ (.string ⟨#[]⟩)).cell? ⟨n0 + 1, 0, none⟩ = some (.string ⟨#[]⟩) := (HK1.out.set_ 0 (.string ⟨#[]⟩)).cell 0
  have hfin : Below w.heap.size w (W.setCell ⟨n0 + 1, 0, none⟩ (.string ⟨#[]⟩)) := HB.out.setCell (by show w.heap.size ≤ n0 + 1; omega) _
  obtain ⟨wf, hwf⟩ : ∃ wf, W.setCell ⟨n0 + 1, 0, none⟩ (.string ⟨#[]⟩) = wf := ⟨_, rfl⟩
  rw [hwf] at dx hfin ⊢
  clear hwf
  simp [bodyPostD, Go.Leaves, settle, results, Tryd.results45, go_sem, dx]
  exact hfin

set_option maxHeartbeats 1000000 in
theorem brk_int (g : Nat) (fv : Value) (l : List UInt8) (w : World) (h : Rs w g l true) :
    Calls Tryd.prog 48 #[.pointer (some ⟨g, 0, none⟩), fv] w fun e w' => e = .returned (.int .i64 0) ∧ Below w.heap.size w w' := by
  obtain ⟨n0, hn0⟩ : ∃ n0, w.heap.size = n0 := ⟨_, rfl⟩
  obtain ⟨W, hW⟩ : ∃ W, (w.alloc (.cells #[.pointer (some ⟨g, 0, none⟩)] 44)).alloc (.cells #[.int .i64 0] 3) = W := ⟨_, rfl⟩
  have hbel : Below w.heap.size w W := by rw [← hW]; exact (by (first | assumption | (repeat (first | exact Below.refl _ _ | assumption | apply Below.drew | apply below_drewN | (refine Below.setCell ?_ (by (try simp) <;> omega) _) | (refine Below.alloc ?_ (by (try simp) <;> omega) _)))))
  have hR := h.old hbel
  have c1 : W.cell? ⟨g, 1, none⟩ = some (.bool true) := by obtain ⟨A, c, hk, _⟩ := hR; exact hk.cell 1
  have k0 : Bk W n0 44 #[.pointer (some ⟨g, 0, none⟩)] := by rw [← hW, ← hn0]; exact (Bk.new w _ _).alloc _
  have k1 : Bk W (n0 + 1) 3 #[.int .i64 0] := by rw [← hW, ← hn0]; have := Bk.new (w.alloc (.cells #[.pointer (some ⟨g, 0, none⟩)] 44)) 3 #[.int .i64 0]; simpa using this
  have HB := Lib.hid hbel
  have HK1 := Lib.hid k1
  have d0 : W.cell? ⟨n0, 0, none⟩ = some (.pointer (some ⟨g, 0, none⟩)) := k0.cell 0
  have d1 : W.cell? ⟨n0 + 1, 0, none⟩ = some (.int .i64 0) := k1.cell 0
  have z1 := k1.frozen 0
  clear h hbel hR k0 k1
  go_enter_defers Tryd.func48, Tryd.ntmps48
  go_wp2_with fail
  have dx : (W.setCell ⟨n0 + 1, 0, none⟩ (.int .i64 0)).cell? ⟨n0 + 1, 0, none⟩ = some (.int .i64 0) := (HK1.out.set_ 0 (.int .i64 0)).cell 0
  have hfin : Below w.heap.size w (W.setCell ⟨n0 + 1, 0, none⟩ (.int .i64 0)) := HB.out.setCell (by show w.heap.size ≤ n0 + 1; omega) _
  obtain ⟨wf, hwf⟩ : ∃ wf, W.setCell ⟨n0 + 1, 0, none⟩ (.int .i64 0) = wf := ⟨_, rfl⟩
  rw [hwf] at dx hfin ⊢
  clear hwf
  simp [bodyPostD, Go.Leaves, settle, results, Tryd.results48, go_sem, dx]
  exact hfin

set_option maxHeartbeats 1000000 in
theorem brk_hash (g : Nat) (fv : Value) (l : List UInt8) (w : World) (h : Rs w g l true) :
    Calls Tryd.prog 42 #[.pointer (some ⟨g, 0, none⟩), fv] w fun e w' => e = .returned (.agg (bts zB).toArray) ∧ Below w.heap.size w w' := by
  have hzh := zero_hash
  obtain ⟨n0, hn0⟩ : ∃ n0, w.heap.size = n0 := ⟨_, rfl⟩
  obtain ⟨W, hW⟩ : ∃ W, (w.alloc (.cells #[.pointer (some ⟨g, 0, none⟩)] 44)).alloc (.cells (bts zB).toArray 29) = W := ⟨_, rfl⟩
  have hbel : Below w.heap.size w W := by rw [← hW]; exact (by (first | assumption | (repeat (first | exact Below.refl _ _ | assumption | apply Below.drew | apply below_drewN | (refine Below.setCell ?_ (by (try simp) <;> omega) _) | (refine Below.alloc ?_ (by (try simp) <;> omega) _)))))
  have hR := h.old hbel
  have c1 : W.cell? ⟨g, 1, none⟩ = some (.bool true) := by obtain ⟨A, c, hk, _⟩ := hR; exact hk.cell 1
  have k0 : Bk W n0 44 #[.pointer (some ⟨g, 0, none⟩)] := by rw [← hW, ← hn0]; exact (Bk.new w _ _).alloc _
  have k1 : Bk W (n0 + 1) 29 (bts zB).toArray := by rw [← hW, ← hn0]; have := Bk.new (w.alloc (.cells #[.pointer (some ⟨g, 0, none⟩)] 44)) 29 (bts zB).toArray; simpa using this
  have HB := Lib.hid hbel
  have HK1 := Lib.hid k1
  have d0 : W.cell? ⟨n0, 0, none⟩ = some (.pointer (some ⟨g, 0, none⟩)) := k0.cell 0
  clear h hbel hR k0 k1
  go_enter_defers Tryd.func42, Tryd.ntmps42
  go_wp2_with (first
    | (refine wpList_val (by rfl) (run_load_seg 29 _ (by with_reducible rfl) (n0 + 1) 0 (by rfl) (bts zB) (by exact HK1.out.whole) 32 (by rw [bts_len]; rfl) _ Tryd.underlying29 (by rfl) hhi) ?_)
    | (refine wpList_puts (by rfl) 29 _ _ (by with_reducible rfl) (n0 + 1) 0 (by rfl) (bts zB) (by rfl) 29 (bts zB) (by exact HK1.out) 32 (by rw [bts_len]; rfl) (by rw [bts_len]; decide) hhi bts_all ?_; intro w3 hb_ hm_ hz_; have HB3 := Lib.hid hb_; have HM3 := Lib.hid hm_; clear hb_ hm_ hz_))
  have k3 : Bk w3 (n0 + 1) 29 (bts zB).toArray := by have := HB3.out; rwa [put_whole rfl] at this
  exact ⟨_, results_cell_row rfl _ _ (n0 + 1) 29 (bts zB).toArray (0, 0) _ (by rfl) k3 Tryd.underlying29 rfl (by rw [hhi]; simp [bts_len, zB_len]), rfl, HB.out.trans (HM3.out.to_below HB.out.size (fun k _ h => by omega))⟩

set_option maxHeartbeats 1000000 in
theorem nil_u64 (fv : Value) (w : World) :
    Calls Tryd.prog 38 #[.pointer none, fv] w fun e w' => e = .returned (.int .u64 0) ∧ Below w.heap.size w w' := by
  obtain ⟨n0, hn0⟩ : ∃ n0, w.heap.size = n0 := ⟨_, rfl⟩
  obtain ⟨W, hW⟩ : ∃ W, (w.alloc (.cells #[.pointer none] 44)).alloc (.cells #[.int .u64 0] 27) = W := ⟨_, rfl⟩
  have hbel : Below w.heap.size w W := by rw [← hW]; exact (by (first | assumption | (repeat (first | exact Below.refl _ _ | assumption | apply Below.drew | apply below_drewN | (refine Below.setCell ?_ (by (try simp) <;> omega) _) | (refine Below.alloc ?_ (by (try simp) <;> omega) _)))))
  have k0 : Bk W n0 44 #[.pointer none] := by rw [← hW, ← hn0]; exact (Bk.new w _ _).alloc _
  have k1 : Bk W (n0 + 1) 27 #[.int .u64 0] := by rw [← hW, ← hn0]; have := Bk.new (w.alloc (.cells #[.pointer none] 44)) 27 #[.int .u64 0]; simpa using this
  have HB := Lib.hid hbel
  have HK1 := Lib.hid k1
  have d0 : W.cell? ⟨n0, 0, none⟩ = some (.pointer none) := k0.cell 0
  have d1 : W.cell? ⟨n0 + 1, 0, none⟩ = some (.int .u64 0) := k1.cell 0
  have z1 := k1.frozen 0
  clear hbel k0 k1
  go_enter_defers Tryd.func38, Tryd.ntmps38
  go_wp2_with fail
  have dx : (W.setCell ⟨n0 + 1, 0, none⟩ (.int .u64 0)).cell? ⟨n0 + 1, 0, none⟩ = some (.int .u64 0) := (HK1.out.set_ 0 (.int .u64 0)).cell 0
  have hfin : Below w.heap.size w (W.setCell ⟨n0 + 1, 0, none⟩ (.int .u64 0)) := HB.out.setCell (by show w.heap.size ≤ n0 + 1; omega) _
  obtain ⟨wf, hwf⟩ : ∃ wf, W.setCell ⟨n0 + 1, 0, none⟩ (.int .u64 0) = wf := ⟨_, rfl⟩
  rw [hwf] at dx hfin ⊢
  clear hwf
  simp [bodyPostD, Go.Leaves, settle, results, Tryd.results38, go_sem, dx]
  exact hfin

set_option maxHeartbeats 1000000 in
theorem nil_str (fv : Value) (w : World) :
    Calls Tryd.prog 45 #[.pointer none, fv] w fun e w' => e = .returned (.string ⟨#[]⟩) ∧ Below w.heap.size w w' := by
  obtain ⟨n0, hn0⟩ : ∃ n0, w.heap.size = n0 := ⟨_, rfl⟩
  obtain ⟨W, hW⟩ : ∃ W, (w.alloc (.cells #[.pointer none] 44)).alloc (.cells #[.string ⟨#[]⟩] 9) = W := ⟨_, rfl⟩
  have hbel : Below w.heap.size w W := by rw [← hW]; exact (by (first | assumption | (repeat (first | exact Below.refl _ _ | assumption | apply Below.drew | apply below_drewN | (refine Below.setCell ?_ (by (try simp) <;> omega) _) | (refine Below.alloc ?_ (by (try simp) <;> omega) _)))))
  have k0 : Bk W n0 44 #[.pointer none] := by rw [← hW, ← hn0]; exact (Bk.new w _ _).alloc _
  have k1 : Bk W (n0 + 1) 9 #[.string ⟨#[]⟩] := by rw [← hW, ← hn0]; have := Bk.new (w.alloc (.cells #[.pointer none] 44)) 9 #[.string ⟨#[]⟩]; simpa using this
  have HB := Lib.hid hbel
  have HK1 := Lib.hid k1
  have d0 : W.cell? ⟨n0, 0, none⟩ = some (.pointer none) := k0.cell 0
  have d1 : W.cell? ⟨n0 + 1, 0, none⟩ = some (.string ⟨#[]⟩) := k1.cell 0
  have z1 := k1.frozen 0
  clear hbel k0 k1
  go_enter_defers Tryd.func45, Tryd.ntmps45
  go_wp2_with fail
  have dx : (W.setCell ⟨n0 + 1, 0, none⟩ (.string ⟨#[]⟩)).cell? ⟨n0 + 1, 0, none⟩ = some (.string ⟨#[]⟩) := (HK1.out.set_ 0 (.string ⟨#[]⟩)).cell 0
  have hfin : Below w.heap.size w (W.setCell ⟨n0 + 1, 0, none⟩ (.string ⟨#[]⟩)) := HB.out.setCell (by show w.heap.size ≤ n0 + 1; omega) _
  obtain ⟨wf, hwf⟩ : ∃ wf, W.setCell ⟨n0 + 1, 0, none⟩ (.string ⟨#[]⟩) = wf := ⟨_, rfl⟩
  rw [hwf] at dx hfin ⊢
  clear hwf
  simp [bodyPostD, Go.Leaves, settle, results, Tryd.results45, go_sem, dx]
  exact hfin

set_option maxHeartbeats 1000000 in
theorem nil_int (fv : Value) (w : World) :
    Calls Tryd.prog 48 #[.pointer none, fv] w fun e w' => e = .returned (.int .i64 0) ∧ Below w.heap.size w w' := by
  obtain ⟨n0, hn0⟩ : ∃ n0, w.heap.size = n0 := ⟨_, rfl⟩
  obtain ⟨W, hW⟩ : ∃ W, (w.alloc (.cells #[.pointer none] 44)).alloc (.cells #[.int .i64 0] 3) = W := ⟨_, rfl⟩
  have hbel : Below w.heap.size w W := by rw [← hW]; exact (by (first | assumption | (repeat (first | exact Below.refl _ _ | assumption | apply Below.drew | apply below_drewN | (refine Below.setCell ?_ (by (try simp) <;> omega) _) | (refine Below.alloc ?_ (by (try simp) <;> omega) _)))))
  have k0 : Bk W n0 44 #[.pointer none] := by rw [← hW, ← hn0]; exact (Bk.new w _ _).alloc _
  have k1 : Bk W (n0 + 1) 3 #[.int .i64 0] := by rw [← hW, ← hn0]; have := Bk.new (w.alloc (.cells #[.pointer none] 44)) 3 #[.int .i64 0]; simpa using this
  have HB := Lib.hid hbel
  have HK1 := Lib.hid k1
  have d0 : W.cell? ⟨n0, 0, none⟩ = some (.pointer none) := k0.cell 0
  have d1 : W.cell? ⟨n0 + 1, 0, none⟩ = some (.int .i64 0) := k1.cell 0
  have z1 := k1.frozen 0
  clear hbel k0 k1
  go_enter_defers Tryd.func48, Tryd.ntmps48
  go_wp2_with fail
  have dx : (W.setCell ⟨n0 + 1, 0, none⟩ (.int .i64 0)).cell? ⟨n0 + 1, 0, none⟩ = some (.int .i64 0) := (HK1.out.set_ 0 (.int .i64 0)).cell 0
  have hfin : Below w.heap.size w (W.setCell ⟨n0 + 1, 0, none⟩ (.int .i64 0)) := HB.out.setCell (by show w.heap.size ≤ n0 + 1; omega) _
  obtain ⟨wf, hwf⟩ : ∃ wf, W.setCell ⟨n0 + 1, 0, none⟩ (.int .i64 0) = wf := ⟨_, rfl⟩
  rw [hwf] at dx hfin ⊢
  clear hwf
  simp [bodyPostD, Go.Leaves, settle, results, Tryd.results48, go_sem, dx]
  exact hfin

set_option maxHeartbeats 1000000 in
theorem nil_hash (fv : Value) (w : World) :
    Calls Tryd.prog 42 #[.pointer none, fv] w fun e w' => e = .returned (.agg (bts zB).toArray) ∧ Below w.heap.size w w' := by
  have hzh := zero_hash
  obtain ⟨n0, hn0⟩ : ∃ n0, w.heap.size = n0 := ⟨_, rfl⟩
  obtain ⟨W, hW⟩ : ∃ W, (w.alloc (.cells #[.pointer none] 44)).alloc (.cells (bts zB).toArray 29) = W := ⟨_, rfl⟩
  have hbel : Below w.heap.size w W := by rw [← hW]; exact (by (first | assumption | (repeat (first | exact Below.refl _ _ | assumption | apply Below.drew | apply below_drewN | (refine Below.setCell ?_ (by (try simp) <;> omega) _) | (refine Below.alloc ?_ (by (try simp) <;> omega) _)))))
  have k0 : Bk W n0 44 #[.pointer none] := by rw [← hW, ← hn0]; exact (Bk.new w _ _).alloc _
  have k1 : Bk W (n0 + 1) 29 (bts zB).toArray := by rw [← hW, ← hn0]; have := Bk.new (w.alloc (.cells #[.pointer none] 44)) 29 (bts zB).toArray; simpa using this
  have HB := Lib.hid hbel
  have HK1 := Lib.hid k1
  have d0 : W.cell? ⟨n0, 0, none⟩ = some (.pointer none) := k0.cell 0
  clear hbel k0 k1
  go_enter_defers Tryd.func42, Tryd.ntmps42
  go_wp2_with (first
    | (refine wpList_val (by rfl) (run_load_seg 29 _ (by with_reducible rfl) (n0 + 1) 0 (by rfl) (bts zB) (by exact HK1.out.whole) 32 (by rw [bts_len]; rfl) _ Tryd.underlying29 (by rfl) hhi) ?_)
    | (refine wpList_puts (by rfl) 29 _ _ (by with_reducible rfl) (n0 + 1) 0 (by rfl) (bts zB) (by rfl) 29 (bts zB) (by exact HK1.out) 32 (by rw [bts_len]; rfl) (by rw [bts_len]; decide) hhi bts_all ?_; intro w3 hb_ hm_ hz_; have HB3 := Lib.hid hb_; have HM3 := Lib.hid hm_; clear hb_ hm_ hz_))
  have k3 : Bk w3 (n0 + 1) 29 (bts zB).toArray := by have := HB3.out; rwa [put_whole rfl] at this
  exact ⟨_, results_cell_row rfl _ _ (n0 + 1) 29 (bts zB).toArray (0, 0) _ (by rfl) k3 Tryd.underlying29 rfl (by rw [hhi]; simp [bts_len, zB_len]), rfl, HB.out.trans (HM3.out.to_below HB.out.size (fun k _ h => by omega))⟩

theorem bkn_two (w : World) (x : Obj) (t : TypeId) (cs : Array Value) : Bk ((w.alloc x).alloc (.cells cs t)) (w.heap.size + 1) t cs := by
  have := Bk.new (w.alloc x) t cs
  simpa using this

set_option maxHeartbeats 1000000 in
theorem mWord_any (g : Nat) (s : Option (List UInt8)) (w : World) (h : RdS w g s) :
    Calls Tryd.prog 23 #[.pointer (some ⟨g, 0, none⟩)] w (MP w g (rstep (wordR) (.int .u64 0) s)) := by
  have hmf : ∀ (fn : Fn) (first cap : Array Value) (w : World), (Instr.makeFunc fn first cap).run Tryd.prog w = .ok (.func fn first cap) w := fun _ _ _ _ => rfl
  obtain ⟨n0, hn0⟩ : ∃ n0, w.heap.size = n0 := ⟨_, rfl⟩
  obtain ⟨W, hW⟩ : ∃ W, (w.alloc (.cells #[.pointer (some ⟨g, 0, none⟩)] 44)) = W := ⟨_, rfl⟩
  have hbel : Below w.heap.size w W := by rw [← hW]; exact (by (first | assumption | (repeat (first | exact Below.refl _ _ | assumption | apply Below.drew | apply below_drewN | (refine Below.setCell ?_ (by (try simp) <;> omega) _) | (refine Below.alloc ?_ (by (try simp) <;> omega) _)))))
  have hS := h.old hbel
  have hb : W.cell? ⟨n0, 0, none⟩ = some (.pointer (some ⟨g, 0, none⟩)) := by rw [← hW, ← hn0]; exact (Bk.new w _ _).cell 0
  have HB := Lib.hid hbel
  cases s with
  | some l =>
    have HR := Lib.hid (read_u64 g n0 l W hS hb)
    clear h hbel hS
    go_enter Tryd.func23, Tryd.ntmps23
    go_wp2_with fail
    with_reducible refine HR.out.mono ?_
    rintro e w2 hp
    have hm := hp.mp HB.out
    obtain ⟨rfl, hr, hg⟩ := hm
    go_wp2_with fail
    go_ret
    exact ⟨rfl, hr, hg⟩
  | none =>
    obtain ⟨l, hl⟩ := hS
    have HR := Lib.hid (fun fv => brk_u64 g fv l W hl)
    have HL := Lib.hid hl
    clear h hbel hl
    go_enter Tryd.func23, Tryd.ntmps23
    go_wp2_with fail
    with_reducible refine (HR.out _).mono ?_
    rintro e w2 ⟨rfl, hb2⟩
    have HB2 := Lib.hid hb2
    clear hb2 HR
    go_wp2_with fail
    go_ret
    exact ⟨rfl, ⟨l, HL.out.old HB2.out⟩, below_grown (HB.out.trans (HB2.out.mono HB.out.size)) _⟩
set_option maxHeartbeats 1000000 in
theorem mWord_nil (w : World) :
    Calls Tryd.prog 23 #[.pointer none] w fun e w' => e = .returned (.int .u64 0) ∧ Below w.heap.size w w' := by
  have hmf : ∀ (fn : Fn) (first cap : Array Value) (w : World), (Instr.makeFunc fn first cap).run Tryd.prog w = .ok (.func fn first cap) w := fun _ _ _ _ => rfl
  obtain ⟨n0, hn0⟩ : ∃ n0, w.heap.size = n0 := ⟨_, rfl⟩
  obtain ⟨W, hW⟩ : ∃ W, (w.alloc (.cells #[.pointer none] 44)) = W := ⟨_, rfl⟩
  have hbel : Below w.heap.size w W := by rw [← hW]; exact (by (first | assumption | (repeat (first | exact Below.refl _ _ | assumption | apply Below.drew | apply below_drewN | (refine Below.setCell ?_ (by (try simp) <;> omega) _) | (refine Below.alloc ?_ (by (try simp) <;> omega) _)))))
  have hb : W.cell? ⟨n0, 0, none⟩ = some (.pointer none) := by rw [← hW, ← hn0]; exact (Bk.new w _ _).cell 0
  have HB := Lib.hid hbel
  have HR := Lib.hid (fun fv => nil_u64 fv W)
  clear hbel
  go_enter Tryd.func23, Tryd.ntmps23
  go_wp2_with fail
  with_reducible refine (HR.out _).mono ?_
  rintro e w2 ⟨rfl, hb2⟩
  go_wp2_with fail
  go_ret
  exact ⟨rfl, HB.out.trans (hb2.mono HB.out.size)⟩

set_option maxHeartbeats 1000000 in
theorem mText_any (g : Nat) (s : Option (List UInt8)) (w : World) (h : RdS w g s) :
    Calls Tryd.prog 27 #[.pointer (some ⟨g, 0, none⟩)] w (MP w g (rstep (textR) (.string ⟨#[]⟩) s)) := by
  have hmf : ∀ (fn : Fn) (first cap : Array Value) (w : World), (Instr.makeFunc fn first cap).run Tryd.prog w = .ok (.func fn first cap) w := fun _ _ _ _ => rfl
  obtain ⟨n0, hn0⟩ : ∃ n0, w.heap.size = n0 := ⟨_, rfl⟩
  obtain ⟨W, hW⟩ : ∃ W, (w.alloc (.cells #[.pointer (some ⟨g, 0, none⟩)] 44)) = W := ⟨_, rfl⟩
  have hbel : Below w.heap.size w W := by rw [← hW]; exact (by (first | assumption | (repeat (first | exact Below.refl _ _ | assumption | apply Below.drew | apply below_drewN | (refine Below.setCell ?_ (by (try simp) <;> omega) _) | (refine Below.alloc ?_ (by (try simp) <;> omega) _)))))
  have hS := h.old hbel
  have hb : W.cell? ⟨n0, 0, none⟩ = some (.pointer (some ⟨g, 0, none⟩)) := by rw [← hW, ← hn0]; exact (Bk.new w _ _).cell 0
  have HB := Lib.hid hbel
  cases s with
  | some l =>
    have HR := Lib.hid (read_str g n0 l W hS hb)
    clear h hbel hS
    go_enter Tryd.func27, Tryd.ntmps27
    go_wp2_with fail
    with_reducible refine HR.out.mono ?_
    rintro e w2 hp
    have hm := hp.mp HB.out
    obtain ⟨rfl, hr, hg⟩ := hm
    go_wp2_with fail
    go_ret
    exact ⟨rfl, hr, hg⟩
  | none =>
    obtain ⟨l, hl⟩ := hS
    have HR := Lib.hid (fun fv => brk_str g fv l W hl)
    have HL := Lib.hid hl
    clear h hbel hl
    go_enter Tryd.func27, Tryd.ntmps27
    go_wp2_with fail
    with_reducible refine (HR.out _).mono ?_
    rintro e w2 ⟨rfl, hb2⟩
    have HB2 := Lib.hid hb2
    clear hb2 HR
    go_wp2_with fail
    go_ret
    exact ⟨rfl, ⟨l, HL.out.old HB2.out⟩, below_grown (HB.out.trans (HB2.out.mono HB.out.size)) _⟩
set_option maxHeartbeats 1000000 in
theorem mText_nil (w : World) :
    Calls Tryd.prog 27 #[.pointer none] w fun e w' => e = .returned (.string ⟨#[]⟩) ∧ Below w.heap.size w w' := by
  have hmf : ∀ (fn : Fn) (first cap : Array Value) (w : World), (Instr.makeFunc fn first cap).run Tryd.prog w = .ok (.func fn first cap) w := fun _ _ _ _ => rfl
  obtain ⟨n0, hn0⟩ : ∃ n0, w.heap.size = n0 := ⟨_, rfl⟩
  obtain ⟨W, hW⟩ : ∃ W, (w.alloc (.cells #[.pointer none] 44)) = W := ⟨_, rfl⟩
  have hbel : Below w.heap.size w W := by rw [← hW]; exact (by (first | assumption | (repeat (first | exact Below.refl _ _ | assumption | apply Below.drew | apply below_drewN | (refine Below.setCell ?_ (by (try simp) <;> omega) _) | (refine Below.alloc ?_ (by (try simp) <;> omega) _)))))
  have hb : W.cell? ⟨n0, 0, none⟩ = some (.pointer none) := by rw [← hW, ← hn0]; exact (Bk.new w _ _).cell 0
  have HB := Lib.hid hbel
  have HR := Lib.hid (fun fv => nil_str fv W)
  clear hbel
  go_enter Tryd.func27, Tryd.ntmps27
  go_wp2_with fail
  with_reducible refine (HR.out _).mono ?_
  rintro e w2 ⟨rfl, hb2⟩
  go_wp2_with fail
  go_ret
  exact ⟨rfl, HB.out.trans (hb2.mono HB.out.size)⟩

set_option maxHeartbeats 1000000 in
theorem mCount_any (g : Nat) (m : Int) (s : Option (List UInt8)) (w : World) (h : RdS w g s) :
    Calls Tryd.prog 29 #[.pointer (some ⟨g, 0, none⟩), .int .i64 m] w (MP w g (rstep (countR m) (.int .i64 0) s)) := by
  have hmf : ∀ (fn : Fn) (first cap : Array Value) (w : World), (Instr.makeFunc fn first cap).run Tryd.prog w = .ok (.func fn first cap) w := fun _ _ _ _ => rfl
  obtain ⟨n0, hn0⟩ : ∃ n0, w.heap.size = n0 := ⟨_, rfl⟩
  obtain ⟨W, hW⟩ : ∃ W, ((w.alloc (.cells #[.pointer (some ⟨g, 0, none⟩)] 44)).alloc (.cells #[.int .i64 m] 3)) = W := ⟨_, rfl⟩
  have hbel : Below w.heap.size w W := by rw [← hW]; exact (by (first | assumption | (repeat (first | exact Below.refl _ _ | assumption | apply Below.drew | apply below_drewN | (refine Below.setCell ?_ (by (try simp) <;> omega) _) | (refine Below.alloc ?_ (by (try simp) <;> omega) _)))))
  have hS := h.old hbel
  have hb : W.cell? ⟨n0, 0, none⟩ = some (.pointer (some ⟨g, 0, none⟩)) := by rw [← hW, ← hn0]; exact ((Bk.new w _ _).alloc _).cell 0
  have hmb : W.cell? ⟨n0 + 1, 0, none⟩ = some (.int .i64 m) := by
    rw [← hW, ← hn0]
    exact (bkn_two _ _ _ _).cell 0
  have HB := Lib.hid hbel
  cases s with
  | some l =>
    have HR := Lib.hid (read_int g n0 (n0 + 1) m l W hS hmb hb)
    clear h hbel hS
    go_enter Tryd.func29, Tryd.ntmps29
    go_wp2_with fail
    with_reducible refine HR.out.mono ?_
    rintro e w2 hp
    have hm := hp.mp HB.out
    obtain ⟨rfl, hr, hg⟩ := hm
    go_wp2_with fail
    go_ret
    exact ⟨rfl, hr, hg⟩
  | none =>
    obtain ⟨l, hl⟩ := hS
    have HR := Lib.hid (fun fv => brk_int g fv l W hl)
    have HL := Lib.hid hl
    clear h hbel hl
    go_enter Tryd.func29, Tryd.ntmps29
    go_wp2_with fail
    with_reducible refine (HR.out _).mono ?_
    rintro e w2 ⟨rfl, hb2⟩
    have HB2 := Lib.hid hb2
    clear hb2 HR
    go_wp2_with fail
    go_ret
    exact ⟨rfl, ⟨l, HL.out.old HB2.out⟩, below_grown (HB.out.trans (HB2.out.mono HB.out.size)) _⟩
set_option maxHeartbeats 1000000 in
theorem mCount_nil (m : Int) (w : World) :
    Calls Tryd.prog 29 #[.pointer none, .int .i64 m] w fun e w' => e = .returned (.int .i64 0) ∧ Below w.heap.size w w' := by
  have hmf : ∀ (fn : Fn) (first cap : Array Value) (w : World), (Instr.makeFunc fn first cap).run Tryd.prog w = .ok (.func fn first cap) w := fun _ _ _ _ => rfl
  obtain ⟨n0, hn0⟩ : ∃ n0, w.heap.size = n0 := ⟨_, rfl⟩
  obtain ⟨W, hW⟩ : ∃ W, ((w.alloc (.cells #[.pointer none] 44)).alloc (.cells #[.int .i64 m] 3)) = W := ⟨_, rfl⟩
  have hbel : Below w.heap.size w W := by rw [← hW]; exact (by (first | assumption | (repeat (first | exact Below.refl _ _ | assumption | apply Below.drew | apply below_drewN | (refine Below.setCell ?_ (by (try simp) <;> omega) _) | (refine Below.alloc ?_ (by (try simp) <;> omega) _)))))
  have hb : W.cell? ⟨n0, 0, none⟩ = some (.pointer none) := by rw [← hW, ← hn0]; exact ((Bk.new w _ _).alloc _).cell 0
  have HB := Lib.hid hbel
  have HR := Lib.hid (fun fv => nil_int fv W)
  clear hbel
  go_enter Tryd.func29, Tryd.ntmps29
  go_wp2_with fail
  with_reducible refine (HR.out _).mono ?_
  rintro e w2 ⟨rfl, hb2⟩
  go_wp2_with fail
  go_ret
  exact ⟨rfl, HB.out.trans (hb2.mono HB.out.size)⟩

set_option maxHeartbeats 1000000 in
theorem mHash_any (g : Nat) (s : Option (List UInt8)) (w : World) (h : RdS w g s) :
    Calls Tryd.prog 25 #[.pointer (some ⟨g, 0, none⟩)] w (MP w g (rstep hashR (.agg (bts zB).toArray) s)) := by
  have hzh := zero_hash
  have hmf : ∀ (fn : Fn) (first cap : Array Value) (w : World), (Instr.makeFunc fn first cap).run Tryd.prog w = .ok (.func fn first cap) w := fun _ _ _ _ => rfl
  obtain ⟨n0, hn0⟩ : ∃ n0, w.heap.size = n0 := ⟨_, rfl⟩
  obtain ⟨W, hW⟩ : ∃ W, (w.alloc (.cells #[.pointer (some ⟨g, 0, none⟩)] 44)).alloc (.cells (bts zB).toArray 29) = W := ⟨_, rfl⟩
  have hbel : Below w.heap.size w W := by rw [← hW]; exact (by (first | assumption | (repeat (first | exact Below.refl _ _ | assumption | apply Below.drew | apply below_drewN | (refine Below.setCell ?_ (by (try simp) <;> omega) _) | (refine Below.alloc ?_ (by (try simp) <;> omega) _)))))
  have hS := h.old hbel
  have hb : W.cell? ⟨n0, 0, none⟩ = some (.pointer (some ⟨g, 0, none⟩)) := by rw [← hW, ← hn0]; exact ((Bk.new w _ _).alloc _).cell 0
  have k1 : Bk W (n0 + 1) 29 (bts zB).toArray := by rw [← hW, ← hn0]; exact bkn_two _ _ _ _
  have hgn : g < n0 := by rw [← hn0]; exact h.lt
  have HB := Lib.hid hbel
  have HK := Lib.hid k1
  have key : ∀ (e : Ending) (w2 : World), MP w g (rstep hashR (.agg (bts zB).toArray) s) e w2 → W.grownBy w2 (some g) → ∃ x : List UInt8, x.length = 32 ∧ e = .returned (.agg (bts x).toArray) ∧ (rstep hashR (.agg (bts zB).toArray) s).1 = .agg (bts x).toArray ∧ RdS w2 g (rstep hashR (.agg (bts zB).toArray) s).2 ∧ Bk w2 (n0 + 1) 29 (bts zB).toArray ∧ w.grownBy w2 (some g) := by
    rintro e w2 ⟨he, hr, hg⟩ hg2
    have hk2 : Bk w2 (n0 + 1) 29 (bts zB).toArray := hg2.bk HK.out (by intro e; have := Option.some.inj e; omega)
    have hx : ∃ x : List UInt8, x.length = 32 ∧ (rstep hashR (.agg (bts zB).toArray) s).1 = .agg (bts x).toArray := by
      cases s with
      | none => exact ⟨zB, rfl, rfl⟩
      | some l =>
        cases hl : hashR l with
        | none => exact ⟨zB, rfl, by simp [rstep, hl]⟩
        | some y =>
          obtain ⟨v, l'⟩ := y
          obtain ⟨x, hx, rfl⟩ := h_some hl
          exact ⟨x, hx, by simp [rstep, hl]⟩
    obtain ⟨x, hx, hx2⟩ := hx
    exact ⟨x, hx, by rw [he, hx2], hx2, hr, hk2, hg⟩
  have hcall : ∃ P : Ending → World → Prop, Calls Tryd.prog 42 #[.pointer (some ⟨g, 0, none⟩), .func (.func 43) #[] #[.pointer (some ⟨n0, 0, none⟩)]] W P ∧ ∀ e w2, P e w2 → MP w g (rstep hashR (.agg (bts zB).toArray) s) e w2 ∧ W.grownBy w2 (some g) := by
    cases s with
    | some l => exact ⟨_, read_hash g n0 l W hS hb, fun e w2 hp => ⟨hp.mp hbel, hp.1⟩⟩
    | none =>
      obtain ⟨l, hl⟩ := hS
      exact ⟨_, brk_hash g _ l W hl, fun e w2 hp => ⟨⟨hp.1, ⟨l, hl.old hp.2⟩, below_grown (hbel.trans (hp.2.mono hbel.size)) _⟩, below_grown hp.2 _⟩⟩
  obtain ⟨P, hP, hP2⟩ := hcall
  have HR := Lib.hid hP
  have HK2 := Lib.hid (fun e w2 h => key e w2 (hP2 e w2 h).1 (hP2 e w2 h).2)
  clear h hbel hS k1 key hP hP2
  go_enter Tryd.func25, Tryd.ntmps25
  go_wp2_with fail
  with_reducible refine HR.out.mono ?_
  rintro e w2 hp
  obtain ⟨x, hx, rfl, hx2, hr, hk2, hg⟩ := HK2.out _ _ hp
  have HX := Lib.hid (show (bts x).length = 32 by rw [bts_len]; exact hx)
  have HX2 := Lib.hid hx2
  have HS := Lib.hid hr
  have HG := Lib.hid hg
  have HK1 := Lib.hid hk2
  clear hx hx2 hr hk2 hg hp HK2 HR
  go_wp2_with (refine wpList_puts (by rfl) 29 _ _ (by with_reducible rfl) (n0 + 1) 0 (by rfl) (bts x) (by rfl) 29 (bts zB) (by exact HK1.out) 32 HX.out (by rw [bts_len]; decide) hhi bts_all ?_; intro w3 hb_ hm_ hz_; have HB3 := Lib.hid hb_; have HM3 := Lib.hid hm_; clear hb_ hm_ hz_)
  have k3 : Bk w3 (n0 + 1) 29 (bts x).toArray := by have := HB3.out; rwa [put_whole (by rw [bts_len, HX.out]; rfl)] at this
  refine bodyPost_ret (results_cell_row rfl _ _ (n0 + 1) 29 (bts x).toArray (0, 0) _ (by rfl) k3 Tryd.underlying29 rfl (by rw [hhi]; simp [HX.out])) rfl ?_
  refine ⟨by rw [HX2.out], HS.out.move (moves_grown HM3.out) (by omega) (HK1.out.no8 (by decide)), ?_⟩
  exact grown_two (Below.refl _ _) HG.out (moves_grown HM3.out) (by omega)
set_option maxHeartbeats 1000000 in
theorem mHash_nil (w : World) :
    Calls Tryd.prog 25 #[.pointer none] w fun e w' => e = .returned (.agg (bts zB).toArray) ∧ Below w.heap.size w w' := by
  have hzh := zero_hash
  have hmf : ∀ (fn : Fn) (first cap : Array Value) (w : World), (Instr.makeFunc fn first cap).run Tryd.prog w = .ok (.func fn first cap) w := fun _ _ _ _ => rfl
  obtain ⟨n0, hn0⟩ : ∃ n0, w.heap.size = n0 := ⟨_, rfl⟩
  obtain ⟨W, hW⟩ : ∃ W, (w.alloc (.cells #[.pointer none] 44)).alloc (.cells (bts zB).toArray 29) = W := ⟨_, rfl⟩
  have hbel : Below w.heap.size w W := by rw [← hW]; exact (by (first | assumption | (repeat (first | exact Below.refl _ _ | assumption | apply Below.drew | apply below_drewN | (refine Below.setCell ?_ (by (try simp) <;> omega) _) | (refine Below.alloc ?_ (by (try simp) <;> omega) _)))))
  have k1 : Bk W (n0 + 1) 29 (bts zB).toArray := by rw [← hW, ← hn0]; exact bkn_two _ _ _ _
  have hb : W.cell? ⟨n0, 0, none⟩ = some (.pointer none) := by rw [← hW, ← hn0]; exact ((Bk.new w _ _).alloc _).cell 0
  have HB := Lib.hid hbel
  have HK := Lib.hid k1
  have HR := Lib.hid (fun fv => nil_hash fv W)
  clear hbel k1
  go_enter Tryd.func25, Tryd.ntmps25
  go_wp2_with fail
  with_reducible refine (HR.out _).mono ?_
  rintro e w2 ⟨rfl, hb2⟩
  have HB2 := Lib.hid hb2
  have HK1 := Lib.hid (HK.out.below hb2 HK.out.lt)
  clear hb2 HR
  go_wp2_with (refine wpList_puts (by rfl) 29 _ _ (by with_reducible rfl) (n0 + 1) 0 (by rfl) (bts zB) (by rfl) 29 (bts zB) (by exact HK1.out) 32 (by rw [bts_len]; rfl) (by rw [bts_len]; decide) hhi bts_all ?_; intro w3 hb_ hm_ hz_; have HB3 := Lib.hid hb_; have HM3 := Lib.hid hm_; clear hb_ hm_ hz_)
  have k3 : Bk w3 (n0 + 1) 29 (bts zB).toArray := by have := HB3.out; rwa [put_whole rfl] at this
  refine bodyPost_ret (results_cell_row rfl _ _ (n0 + 1) 29 (bts zB).toArray (0, 0) _ (by rfl) k3 Tryd.underlying29 rfl (by rw [hhi]; simp [bts_len, zB_len])) rfl ?_
  have h1 := HB.out.trans (HB2.out.mono HB.out.size)
  exact ⟨rfl, h1.trans (HM3.out.to_below h1.size (fun k _ h => by omega))⟩

def numV : Value → Value
  | .int _ x => .int .i64 (IntKind.i64.wrap x)
  | v => v
theorem rstep_word (s : Option (List UInt8)) : ∃ x : Int, (rstep wordR (.int .u64 0) s).1 = .int .u64 x ∧ 0 ≤ x ∧ x < 18446744073709551616 := by
  cases s with
  | none => exact ⟨0, rfl, by decide, by decide⟩
  | some l =>
    by_cases h : 8 ≤ l.length
    · have e : wordR l = some (.int .u64 (beN (l.take 8) : Nat), l.drop 8) := if_pos h
      exact ⟨(beN (l.take 8) : Nat), by simp only [rstep, e], by omega, by have := beN8 l h; omega⟩
    · have e : wordR l = none := if_neg h
      exact ⟨0, by simp only [rstep, e], by decide, by decide⟩
theorem wrap64_eq (x : Int) : wrap64 x = IntKind.i64.wrap x := by rw [IntKind.wrap_i64]; unfold wrap64; rfl
set_option maxHeartbeats 1000000 in
theorem mNumber_any (g : Nat) (s : Option (List UInt8)) (w : World) (h : RdS w g s) :
    Calls Tryd.prog 21 #[.pointer (some ⟨g, 0, none⟩)] w (MP w g (numV (rstep wordR (.int .u64 0) s).1, (rstep wordR (.int .u64 0) s).2)) := by
  obtain ⟨x, hx, hx0, hx1⟩ := rstep_word s
  have HW := Lib.hid (mWord_any g s w h)
  have HX := Lib.hid hx
  clear h hx
  go_enter Tryd.func21, Tryd.ntmps21
  go_wp2_with fail
  with_reducible refine HW.out.mono ?_
  rintro e w2 ⟨rfl, hr, hg⟩
  rw [HX.out]
  go_wp2_with fail
  go_ret
  exact ⟨by rw [HX.out]; exact congrArg (fun z => Ending.returned (.int .i64 z)) (wrap64_eq x), hr, hg⟩
set_option maxHeartbeats 1000000 in
theorem mNumber_nil (w : World) : Calls Tryd.prog 21 #[.pointer none] w fun e w' => e = .returned (.int .i64 0) ∧ Below w.heap.size w w' := by
  have HW := Lib.hid (mWord_nil w)
  go_enter Tryd.func21, Tryd.ntmps21
  go_wp2_with fail
  with_reducible refine HW.out.mono ?_
  rintro e w2 ⟨rfl, hb⟩
  go_wp2_with fail
  go_ret
  exact ⟨rfl, hb⟩

def endF : Option (List UInt8) → Int
  | some [] => 0
  | _ => 21
set_option maxHeartbeats 1000000 in
theorem mEnd_any (g : Nat) (s : Option (List UInt8)) (w : World) (h : RdS w g s) :
    Calls Tryd.prog 31 #[.pointer (some ⟨g, 0, none⟩)] w fun e w' => e = .returned (.int .i64 (endF s)) ∧ Below w.heap.size w w' := by
  cases s with
  | none =>
    obtain ⟨l, A, c, hk, _⟩ := h
    have c1 : w.cell? ⟨g, 1, none⟩ = some (.bool true) := hk.cell 1
    clear hk
    go_enter Tryd.func31, Tryd.ntmps31
    go_wp2_with fail
    go_ret
    exact ⟨rfl, (by (first | assumption | (repeat (first | exact Below.refl _ _ | assumption | apply Below.drew | apply below_drewN | (refine Below.setCell ?_ (by (try simp) <;> omega) _) | (refine Below.alloc ?_ (by (try simp) <;> omega) _)))))⟩
  | some l =>
    obtain ⟨A, c, hk, _⟩ := h
    have c1 : w.cell? ⟨g, 1, none⟩ = some (.bool false) := hk.cell 1
    cases l with
    | nil =>
      have c0 : w.cell? ⟨g, 0, none⟩ = some (.slice A 0 c) := hk.cell 0
      clear hk
      go_enter Tryd.func31, Tryd.ntmps31
      go_wp2_with fail
      go_ret
      exact ⟨rfl, (by (first | assumption | (repeat (first | exact Below.refl _ _ | assumption | apply Below.drew | apply below_drewN | (refine Below.setCell ?_ (by (try simp) <;> omega) _) | (refine Below.alloc ?_ (by (try simp) <;> omega) _)))))⟩
    | cons x l =>
      have c0 : w.cell? ⟨g, 0, none⟩ = some (.slice A (l.length + 1) c) := hk.cell 0
      have e1 : decide ((0 : Int) < ((l.length + 1 : Nat) : Int)) = true := by simp
      clear hk
      go_enter Tryd.func31, Tryd.ntmps31
      go_wp2_with fail
      go_ret
      exact ⟨rfl, (by (first | assumption | (repeat (first | exact Below.refl _ _ | assumption | apply Below.drew | apply below_drewN | (refine Below.setCell ?_ (by (try simp) <;> omega) _) | (refine Below.alloc ?_ (by (try simp) <;> omega) _)))))⟩
theorem mEnd_nil (w : World) : Calls Tryd.prog 31 #[.pointer none] w fun e w' => e = .returned (.int .i64 1) ∧ w' = w := by
  go_enter Tryd.func31, Tryd.ntmps31
  go_wp2_with fail
  go_ret
  exact ⟨rfl, rfl⟩
theorem own8_form {w : World} {B : Nat} {v : Value} {l : List UInt8} (h : Own8 w B v l) : ∃ A c, v = .slice A l.length c ∧ l.length ≤ c ∧ c ≤ maxLen ∧ Sl w w.heap.size 1 A l.length (bts l) ∧ (A = none → c = 0) ∧ Tagged w A l.length := by
  obtain ⟨A, c, hv, h1, h2, h3⟩ := own_sl h
  refine ⟨A, c, hv, h1, h2, h3, ?_, ?_⟩
  · rintro rfl
    rcases h.2 with ⟨e, _⟩ | ⟨g, cap, cur, e, _⟩
    · rw [hv] at e; injection e
    · rw [hv] at e; injection e with e; cases e
  · rintro b off rfl hn
    rcases h.2 with ⟨e, _⟩ | ⟨g, cap, cur, e, _, hg, _⟩
    · rw [hv] at e; injection e with e; cases e
    · rw [hv] at e; injection e with e; cases e
      exact ⟨cur, hg⟩
/-- bytes.Clone. -/
theorem clone8 (A : Option Addr) (n c : Nat) (l : List UInt8) (hn : l.length = n) (hz : A = none → n = 0) (w : World) (hbig : n ≤ 140737488355328) (hs : Sl w w.heap.size 1 A n (bts l)) :
    Calls Tryd.prog 36 #[.slice A n c] w fun e w' => ∃ v', e = .returned v' ∧ Own8 w' w.heap.size v' l ∧ Below w.heap.size w w' := by
  cases A with
  | none =>
    obtain rfl := hz rfl
    have : l = [] := List.eq_nil_of_length_eq_zero hn
    subst this
    refine (Tryd.bytes_Clone_nil 0 c w).mono ?_
    rintro e w' ⟨rfl, rfl⟩
    exact ⟨_, rfl, own8_nil _ _, Below.refl _ _⟩
  | some a =>
    refine (Tryd.bytes_Clone_at a n c (l.map fun x => (x.toNat : Int)) w (by simp [hn]) hbig ?_).mono ?_
    · intro i hi
      obtain ⟨b, off, e, _, hc⟩ := hs.at_ (by omega)
      cases e
      have h1 : (bts l)[i]? = some (.int .u8 ((l.map fun x => (x.toNat : Int)).getD i 0)) := by
        simp [bts, List.getD_eq_getElem?_getD, hn, hi]
      have := hc i _ h1
      have e2 : Addr.add ⟨b, off, none⟩ i = ⟨b, off + i, none⟩ := by unfold Addr.add; split <;> simp_all
      rw [e2]
      exact this
    · rintro e w' ⟨v', rfl, ho, _, hb⟩
      refine ⟨v', rfl, ?_, hb⟩
      unfold Own8
      have : (l.map fun x => (x.toNat : Int)).map (Value.int .u8) = bts l := by simp [bts, Function.comp_def]
      rw [this] at ho
      rw [hn]
      exact ho
set_option maxHeartbeats 1000000 in
theorem newReader_any (A : Option Addr) (n c : Nat) (l : List UInt8) (hn : l.length = n) (w : World) (hbig : n ≤ 140737488355328) (hs : Sl w w.heap.size 1 A n (bts l)) :
    Calls Tryd.prog 20 #[.slice A n c] w fun e w' => ∃ g, e = .returned (.pointer (some ⟨g, 0, none⟩)) ∧ w.heap.size ≤ g ∧ RdS w' g (some l) ∧ Below w.heap.size w w' := by
  have HC := Lib.hid (fun W (h : Sl W W.heap.size 1 A n (bts l)) => clone8 A n c l hn (fun e => by
    subst e
    rcases Nat.eq_zero_or_pos n with h | h
    · exact h
    · obtain ⟨b, off, e, _⟩ := hs.at_ h; cases e) W hbig h)
  have HS := Lib.hid hs
  clear hs
  go_enter Tryd.func20, Tryd.ntmps20
  go_wp2_with fail
  with_reducible refine (HC.out w HS.out).mono ?_
  rintro e w2 ⟨v, rfl, ho, hb⟩
  have HB := Lib.hid hb
  have hf := own8_form ho
  obtain ⟨A2, c2, hv, hlc, hcm, hs2, hz2, ht2⟩ := hf
  subst hv
  have HF := Lib.hid (show l.length ≤ c2 ∧ c2 ≤ maxLen ∧ Sl w2 w2.heap.size 1 A2 l.length (bts l) ∧ (A2 = none → c2 = 0) ∧ Tagged w2 A2 l.length from ⟨hlc, hcm, hs2, hz2, ht2⟩)
  clear ho hb hlc hcm hs2 hz2 ht2
  go_wp2_with fail
  go_ret
  subst hn
  obtain ⟨h1, h2, h3, h4, h5⟩ := HF.out
  have hb : Below w2.heap.size w2 (w2.alloc (.cells #[.slice A2 l.length c2, .bool false] 74)) := (by (first | assumption | (repeat (first | exact Below.refl _ _ | assumption | apply Below.drew | apply below_drewN | (refine Below.setCell ?_ (by (try simp) <;> omega) _) | (refine Below.alloc ?_ (by (try simp) <;> omega) _)))))
  refine ⟨w2.heap.size, rfl, HB.out.size, ⟨A2, c2, Bk.new _ _ _, h1, h2, (h3.below hb).more hb.size, h4, fun b off e hn => ?_⟩, HB.out.trans (hb.mono HB.out.size)⟩
  obtain ⟨cur, hc⟩ := h5 b off e hn
  exact ⟨cur, (hb.block b (Lib.lt_of_heap hc)).trans hc⟩
end Go.Proofs.YtclnpglnomfjkaaDoor

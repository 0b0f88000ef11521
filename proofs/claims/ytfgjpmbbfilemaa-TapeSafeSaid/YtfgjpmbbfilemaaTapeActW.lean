/- What this text proves: the walk through the law's 'act'. The conditions are how the tapes and the operation lie in memory. -/
import Derived.Test.YtfgjpmbbfilemaaTapeAct
namespace Go.Proofs.Ytfgjpmbbfilemaa
open Go.RowKit
set_option linter.unusedVariables false
set_option linter.unusedSimpArgs false

def ActPost (w : World) (B p m : Nat) (f : List UInt8 × Nat) (N : Nat) (e : Ending) (w' : World) : Prop :=
  ∃ r, e = .returned (.tuple #[.int .i64 r, .int .i64 r]) ∧ ActD w' B p m f N ∧ Below B w w'

set_option maxRecDepth 100000 in
set_option maxHeartbeats 4000000 in
theorem act_any (o : OpV) (w : World) {B p m : Nat} {sv lv : Value} {f n : List UInt8 × Nat} {st : List (List UInt8 × Nat)} (h : Both w B p sv m lv f n st) (hB : B ≤ w.heap.size) (hn : st.length ≤ 999999) (hM : o.b.length ≤ maxLen) (hs : Sl w B 1 o.A o.b.length (bts o.b)) :
    Calls Try.prog 16 #[.agg o.cells.toArray, .pointer (some ⟨p, 0, none⟩), .pointer (some ⟨m, 0, none⟩)] w (ActPost w B p m f st.length) := by
  have hc : o.cells.toArray = #[.int .i64 o.k, .int .i64 o.n, .int .i64 o.m, .slice o.A o.b.length o.c] := rfl
  rw [hc]
  have hb0 : Below w.heap.size w (w.alloc (.cells #[.int .i64 o.k, .int .i64 o.n, .int .i64 o.m, .slice o.A o.b.length o.c] 35)) := (by (first | assumption | (repeat (first | exact Below.refl _ _ | assumption | apply Below.drew | apply below_drewN | (refine Below.setCell ?_ (by (try simp) <;> omega) _) | (refine Below.alloc ?_ (by (try simp) <;> omega) _)))))
  have hbk := Bk.new w 35 #[.int .i64 o.k, .int .i64 o.n, .int .i64 o.m, .slice o.A o.b.length o.c]
  have hW := h.below hb0 (Nat.le_refl _)
  have hWs := hs.below (hb0.mono hB)
  have hB1 : B ≤ (w.alloc (.cells #[.int .i64 o.k, .int .i64 o.n, .int .i64 o.m, .slice o.A o.b.length o.c] 35)).heap.size := Nat.le_trans hB hb0.size
  have H := Lib.hid hW
  have HS := Lib.hid hWs
  by_cases k1 : o.k = 1
  · have e1 : (o.k == 1) = true := by simp [k1]
    have HT := Lib.hid (two_append o.A o.b o.c (H.out.below (Below.drew (Below.refl _ _)) (Nat.le_refl _)) hB1 hn hM (HS.out.below (Below.drew (Below.refl _ _)))).out
    have HQ := Lib.hid (hbk.drew)
    clear h hs hW hWs H HS
    clear k1
    go_enter Try.func16, Try.ntmps16
    go_wp2_with fail
    obtain ⟨W, hWe⟩ : ∃ W, w.alloc (.cells #[.int .i64 o.k, .int .i64 o.n, .int .i64 o.m, .slice o.A o.b.length o.c] 35) = W := ⟨_, rfl⟩
    rw [hWe] at HT HQ hb0 hB1 hbk ⊢
    clear hWe
    have c1 := hbk.cell 1
    have c3 := hbk.cell 3
    clear hbk
    go_region_law (first
      | (go_simp; go_at_call 9; with_reducible refine HT.out.mono ?_; rintro e w1 ⟨r, rfl, b1, hq, h2⟩; have hqb := hq.bk HQ.out; have d1 := hqb.cell 1; have d3 := hqb.cell 3; have H2 := Lib.hid h2; clear h2 hqb hq)
      | (go_simp; go_at_call 28; with_reducible refine H2.out.mono ?_; rintro e w2 ⟨rfl, hd, b2⟩; have HD := Lib.hid hd; clear hd))
    all_goals
      go_wp2_with fail
      go_ret2
      exact ⟨r, rfl, HD.out, (((hb0.mono hB).drew).trans b1).trans b2⟩
  by_cases k2 : o.k = 2
  · have e1 : (o.k == 1) = false := by simp [k1]
    have e2 : (o.k == 2) = true := by simp [k2]
    have HT := Lib.hid (two_sync H.out hB1 hn).out
    clear h hs hW hWs hbk
    clear k1 k2
    go_enter Try.func16, Try.ntmps16
    go_wp2_with fail
    with_reducible refine HT.out.mono ?_
    rintro e w1 ⟨r, rfl, b1, _, h2⟩
    have H2 := Lib.hid h2
    clear h2
    go_wp2_with fail
    with_reducible refine H2.out.mono ?_
    rintro e w2 ⟨rfl, hd, b2⟩
    have HD := Lib.hid hd
    clear hd
    go_wp2_with fail
    go_ret2
    exact ⟨r, rfl, HD.out, ((hb0.mono hB).trans b1).trans b2⟩
  by_cases k3 : o.k = 3
  · have e1 : (o.k == 1) = false := by simp [k1]
    have e2 : (o.k == 2) = false := by simp [k2]
    have e3 : (o.k == 3) = true := by simp [k3]
    have HT := Lib.hid (two_trim o.n (H.out.below (Below.drew (Below.refl _ _)) (Nat.le_refl _)) hB1 hn).out
    have HQ := Lib.hid (hbk.drew)
    clear h hs hW hWs H HS
    clear k1 k2 k3
    go_enter Try.func16, Try.ntmps16
    go_wp2_with fail
    obtain ⟨W, hWe⟩ : ∃ W, w.alloc (.cells #[.int .i64 o.k, .int .i64 o.n, .int .i64 o.m, .slice o.A o.b.length o.c] 35) = W := ⟨_, rfl⟩
    rw [hWe] at HT HQ hb0 hB1 hbk ⊢
    clear hWe
    have c1 := hbk.cell 1
    have c3 := hbk.cell 3
    clear hbk
    go_region_law (first
      | (go_simp; go_at_call 20; with_reducible refine HT.out.mono ?_; rintro e w1 ⟨r, rfl, b1, hq, h2⟩; have hqb := hq.bk HQ.out; have d1 := hqb.cell 1; have d3 := hqb.cell 3; have H2 := Lib.hid h2; clear h2 hqb hq)
      | (go_simp; go_at_call 30; with_reducible refine H2.out.mono ?_; rintro e w2 ⟨rfl, hd, b2⟩; have HD := Lib.hid hd; clear hd))
    all_goals
      go_wp2_with fail
      go_ret2
      exact ⟨r, rfl, HD.out, (((hb0.mono hB).drew).trans b1).trans b2⟩
  · have e1 : (o.k == 1) = false := by simp [k1]
    have e2 : (o.k == 2) = false := by simp [k2]
    have e3 : (o.k == 3) = false := by simp [k3]
    clear h hs hW hWs hbk
    clear k1 k2 k3
    go_enter Try.func16, Try.ntmps16
    go_wp2_with fail
    go_ret2
    exact ⟨0, rfl, ⟨sv, lv, n, st, H.out, by omega⟩, hb0.mono hB⟩
end Go.Proofs.Ytfgjpmbbfilemaa

/- What this text proves: what the laws' 'alive' answers, what is answered of no tape and no log, and what Open leaves behind a place. The conditions are how the values lie in memory, and that the package's table is as its text lays it. -/
import Derived.Test.YtpmmojjffjpmbaaDoorWalRecs
import Derived.Test.YtpmmojjffjpmbaaDoorTapeKept
import Derived.Lib.SlBytesConst
namespace Go.Proofs.YtpmmojjffjpmbaaDoor
open Go.RowKit
set_option linter.unusedVariables false
set_option linter.unusedSimpArgs false

theorem op_kept {B : Nat} {w w' : World} {tp : Nat} {sv : Value} {f n : List UInt8 × Nat} {st : List (List UInt8 × Nat)} {e : Ending} (ho : Kept B tp sv) (hB : B ≤ w.heap.size) (h : OpPost w tp sv f n st e w') :
    ∃ lp sv' rv l, e = .returned (.tuple #[.pointer (some ⟨lp, 0, none⟩), .int .i64 0]) ∧ w.heap.size ≤ lp ∧ LogAt w' lp tp sv' rv f (framesF ckW (scanW ckW n.1), (framesF ckW (scanW ckW n.1)).length) (st ++ [(framesF ckW (scanW ckW n.1), (framesF ckW (scanW ckW n.1)).length)]) l l.length ∧
      l.map dat = scanW ckW n.1 ∧ KeptL B lp tp sv' rv ∧ Below B w w' ∧ ∀ k, rv.ownBlock = some k → w.heap.size ≤ k := by
  obtain ⟨lp, sv', rv, l, rfl, h1, h2, h3, h4, h5, h6⟩ := h
  refine ⟨lp, sv', rv, l, rfl, h1, h2, h3, ⟨Nat.le_trans hB h1, ho.1, fun k hk => ?_, fun k hk => Nat.le_trans hB (h6 k hk)⟩, h4.to_below hB ?_, h6⟩
  · rcases h5 k hk with h | h
    · exact ho.2 k h
    · omega
  · rintro k o (h | h)
    · rw [h]; exact ho.1
    · exact ho.2 k h.symm
theorem dat_len {l : List Part} {ls : List (List UInt8)} (h : l.map dat = ls) : l.length = ls.length := by rw [← h, List.length_map]
theorem recs_slice {w : World} {N m : Nat} {v : Value} {l : List Part} (h : Recs w N v l) (hm : l.length = m) : ∃ A c, v = .slice A m c ∧ m ≤ c ∧ c ≤ maxLen ∧ Sl w w.heap.size 1 A m (l.map slv) ∧ ∀ p ∈ l, p.good w := by
  obtain ⟨A, c, rfl, h1, h2, h3⟩ := own_sl h.own
  subst hm
  refine ⟨A, c, rfl, h1, h2, h3, fun p hp => ?_⟩
  obtain ⟨A', c', hv, g1, g2, g3⟩ := (h.rd p hp).sl
  rw [bts_len] at hv g1 g3
  obtain ⟨pa, pc, pl⟩ := p
  simp only [slv] at hv
  cases hv
  exact ⟨g1, g2, g3⟩

set_option maxRecDepth 100000 in
set_option maxHeartbeats 4000000 in
theorem walive_any (w : World) (hR : Roots w) (h0 : 0 < w.heap.size) : Calls Tryd.prog 8 #[] w fun e w' => e = .returned (.bool true) ∧ Below w.heap.size w w' := by
  have HB := fun W : World => Lib.run_convert_bytes_const (P := Tryd.prog) W 22 5 #[.int .u8 104, .int .u8 105] 2 2 Tryd.underlying22 Tryd.underlying5
  have HR := Lib.hid hR
  clear hR
  go_enter Tryd.func8, Tryd.ntmps8
  go_wp2_with fail
  with_reducible refine (tnew_any w).mono ?_
  rintro e w1 ⟨rfl, hb1, hlt, ht1⟩
  obtain ⟨B, hB⟩ : ∃ B, w.heap.size = B := ⟨_, rfl⟩
  rw [hB] at hb1 hlt ht1 h0 ⊢
  have HBB := Lib.hid hB
  have HT1 := Lib.hid ht1
  have HL1 := Lib.hid hb1
  clear ht1 hB hb1
  go_wp2_with fail
  with_reducible refine (open_any HT1.out (by simp) (HR.out.below HL1.out h0) (by omega)).mono ?_
  intro e w2 hd
  obtain ⟨lp, sv2, rv2, l2, rfl, hlp, hl2, hd2, hk2, hb2, _⟩ := op_kept (B := B) ⟨Nat.le_refl _, fun k h => by cases h⟩ (by omega) hd
  have HL2 := Lib.hid (HL1.out.trans hb2)
  rw [show scanW ckW ([] : List UInt8) = [] from rfl] at hl2 hd2
  have hl20 : l2.length = 0 := dat_len hd2
  have HD2 := Lib.hid hd2
  have HG2 := Lib.hid hl2
  have HK2 := Lib.hid hk2
  have hz2 := hb2.size
  clear hd hl2 hd2 hk2 hb2
  go_wp2_with fail
  have hbc : Below B w2 (w2.alloc (.cells #[.int .u8 104, .int .u8 105] 5 (2, 3))) := (Below.refl _ _).alloc (by omega) _
  have hbc2 : Below w2.heap.size w2 (w2.alloc (.cells #[.int .u8 104, .int .u8 105] 5 (2, 3))) := (by (first | assumption | (repeat (first | exact Below.refl _ _ | assumption | apply Below.drew | apply below_drewN | (refine Below.setCell ?_ (by (try simp) <;> omega) _) | (refine Below.alloc ?_ (by (try simp) <;> omega) _)))))
  have hB2 : B ≤ w2.heap.size := by omega
  have HG3 := Lib.hid (HG2.out.below hbc2 (Nat.le_refl _))
  have HR3 := Lib.hid (HR.out.below (HL2.out.trans hbc) h0)
  have hsl : Sl (w2.alloc (.cells #[.int .u8 104, .int .u8 105] 5 (2, 3))) (w2.alloc (.cells #[.int .u8 104, .int .u8 105] 5 (2, 3))).heap.size 1 (some ⟨w2.heap.size, 0, none⟩) 2 (bts [104, 105]) := by
    refine ⟨rfl, fun _ => ⟨w2.heap.size, 0, rfl, by simp, fun i u hu => ?_⟩⟩
    rw [Nat.zero_add]
    have hc := cell_of_row _ _ i _ _ _ (heap_alloc_new w2 (.cells #[.int .u8 104, .int .u8 105] 5 (2, 3)))
    rw [hc]
    simpa [bts] using hu
  have hap := lappend_any HG3.out (by simp) (by omega) HR3.out (by simp) (some ⟨w2.heap.size, 0, none⟩) [104, 105] 2 2 rfl ⟨by decide, by decide⟩ ⟨Nat.le_refl _, by simp only; unfold maxLen; omega, hsl⟩ (new_stays HG2.out.tape _ hsl (fun b off e => by injection e with e; injection e with e; exact e.symm)) (by decide)
  with_reducible refine hap.mono ?_
  intro e w4 hd
  obtain ⟨sv4, rv4, l4, rfl, hl4, hd4, hk4, _, hb4, _⟩ := ldid_kept HK2.out (by have := hbc2.size; omega) hd
  rw [HD2.out] at hd4
  have hl40 : l4.length = 1 := dat_len hd4
  have HG4 := Lib.hid hl4
  have HK4 := Lib.hid hk4
  have HD4 := Lib.hid hd4
  have HL4 := Lib.hid (HL2.out.trans (hbc.trans hb4))
  have hz4 := hb4.size
  have hzc := hbc2.size
  clear hd hl4 hd4 hk4 hb4 hap hsl hbc hbc2 HG3 HR3 HG2 HK2 HL2
  go_wp2_with fail
  with_reducible refine (lsync_any HG4.out (by simp)).mono ?_
  intro e w5 hd
  obtain ⟨sv5, rv5, l5, rfl, hl5, hd5, hk5, _, hb5, _⟩ := ldid_kept HK4.out (by omega) hd
  rw [HD4.out] at hd5
  have hl50 : l5.length = 1 := dat_len hd5
  rw [hl40] at hl5
  have HG5 := Lib.hid hl5
  have HD5 := Lib.hid hd5
  have HL5 := Lib.hid (HL4.out.trans hb5)
  have hz5 := hb5.size
  clear hd hl5 hd5 hk5 hb5 HG4 HK4 HL4
  go_wp2_with fail
  with_reducible refine (records_any HG5.out (by omega) (fun p hp => by have : dat p ∈ l5.map dat := List.mem_map_of_mem hp; rw [HD5.out] at this; simp at this; rw [show p.2.2 = dat p from rfl, this]; decide)).mono ?_
  rintro e w6 ⟨v6, l6, rfl, hr6, hd6, hb6⟩
  obtain ⟨A6, c6, rfl, _, _, _, _⟩ := recs_slice hr6 (m := 1) (by rw [dat_len hd6, List.length_map]; exact hl50)
  have HG6 := Lib.hid (HG5.out.below hb6 (Nat.le_refl _))
  have HL6 := Lib.hid (HL5.out.trans (hb6.mono (by omega)))
  clear hr6 hd6 hb6 HG5 HL5
  go_wp2_with fail
  with_reducible refine (synced_any HG6.out).mono ?_
  rintro e w7 ⟨rfl, rfl⟩
  go_wp2_with fail
  with_reducible refine (read_any B sv5 _ _ _ w6 HG6.out.tape).mono ?_
  rintro e w8 ⟨v8, rfl, hr8, hb8, _⟩
  obtain ⟨A8, c8, rfl, _, _, _⟩ := rd_slice (N := 8) hr8 (by rw [show (framesF ckW ([] : List (List UInt8))) = [] from rfl, List.nil_append, frameF_len ckW_len]; rfl)
  have HL8 := Lib.hid (HL6.out.trans (hb8.mono (by have := HL6.out.size; rw [HBB.out] at this; omega)))
  clear hr8 hb8
  go_wp2_with fail
  go_ret
  exact ⟨rfl, by rw [HBB.out]; exact HL8.out⟩
end Go.Proofs.YtpmmojjffjpmbaaDoor

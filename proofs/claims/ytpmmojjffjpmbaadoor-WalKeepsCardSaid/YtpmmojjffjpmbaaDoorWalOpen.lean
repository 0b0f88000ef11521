/- What this text proves: the contract of wal.Open. The conditions are how the tape lies in memory, and that the package's table is as its text lays it. -/
import Derived.Test.YtpmmojjffjpmbaaDoorWalLog
namespace Go.Proofs.YtpmmojjffjpmbaaDoor
open Go.RowKit
set_option linter.unusedVariables false
set_option linter.unusedSimpArgs false

theorem Recs.low {w : World} {N : Nat} {v : Value} {l : List Part} (h : Recs w N v l) : Recs w 0 v l := ⟨own_low h.own (Nat.zero_le _), h.rd⟩
/-- What Open leaves. -/
def OpPost (w : World) (tp : Nat) (sv : Value) (f n : List UInt8 × Nat) (st : List (List UInt8 × Nat)) (e : Ending) (w' : World) : Prop :=
  ∃ lp sv' rv l, e = .returned (.tuple #[.pointer (some ⟨lp, 0, none⟩), .int .i64 0]) ∧ w.heap.size ≤ lp ∧ LogAt w' lp tp sv' rv f (framesF ckW (scanW ckW n.1), (framesF ckW (scanW ckW n.1)).length) (st ++ [(framesF ckW (scanW ckW n.1), (framesF ckW (scanW ckW n.1)).length)]) l l.length ∧
    l.map dat = scanW ckW n.1 ∧ Moves (TapeX tp sv) w w' ∧ (∀ k, sv'.ownBlock = some k → sv.ownBlock = some k ∨ w.heap.size ≤ k) ∧ (∀ k, rv.ownBlock = some k → w.heap.size ≤ k)

set_option maxRecDepth 100000 in
set_option maxHeartbeats 4000000 in
theorem open_any {w : World} {tp : Nat} {sv : Value} {f n : List UInt8 × Nat} {st : List (List UInt8 × Nat)} (h : TapeAt w tp sv f n st) (hn : st.length ≤ 999999) (hR : Roots w) (h0 : 0 < w.heap.size) :
    Calls Tryd.prog 14 #[.pointer (some ⟨tp, 0, none⟩)] w (OpPost w tp sv f n st) := by
  have hlen := h.okn.1
  have HT := Lib.hid h
  have HR := Lib.hid hR
  clear h hR
  go_enter Tryd.func14, Tryd.ntmps14
  go_wp2_with fail
  with_reducible refine (read_any tp sv f n st w HT.out).mono ?_
  rintro e w1 ⟨v, rfl, hr1, hb1, _⟩
  obtain ⟨L, hL⟩ : ∃ L, n.1.length = L := ⟨_, rfl⟩
  obtain ⟨Av, cv, rfl, hcv1, hcv2, hrd⟩ := rd_slice hr1 hL
  obtain ⟨_, _, hv', _, _, hsl⟩ := hrd.sl
  rw [bts_len, hL] at hv' hsl
  cases hv'
  have HT1 := Lib.hid (HT.out.below hb1 (Nat.le_refl _))
  have HB1 := Lib.hid hb1
  have HSL := Lib.hid hsl
  have HLL := Lib.hid hL
  rw [hL] at hlen
  clear hr1 hrd hsl hb1 hL
  have z1 := HB1.out.size
  go_upto_region 6 with fail
  have O2 := Bk.new w1 60 #[.pointer (some ⟨tp, 0, none⟩), .slice none 0 0, .int .i64 0]
  have L2 : Below w1.heap.size w1 (w1.alloc (.cells #[.pointer (some ⟨tp, 0, none⟩), .slice none 0 0, .int .i64 0] 60)) := (by (first | assumption | (repeat (first | exact Below.refl _ _ | assumption | apply Below.drew | apply below_drewN | (refine Below.setCell ?_ (by (try simp) <;> omega) _) | (refine Below.alloc ?_ (by (try simp) <;> omega) _)))))
  have z2 : (w1.alloc (.cells #[.pointer (some ⟨tp, 0, none⟩), .slice none 0 0, .int .i64 0] 60)).heap.size = w1.heap.size + 1 := by simp
  obtain ⟨lp, hlp⟩ : ∃ x, w1.heap.size = x := ⟨_, rfl⟩
  obtain ⟨w2, hw2⟩ : ∃ x, w1.alloc (.cells #[.pointer (some ⟨tp, 0, none⟩), .slice none 0 0, .int .i64 0] 60) = x := ⟨_, rfl⟩
  rw [hw2] at O2 L2 z2 ⊢
  rw [hlp] at O2 z2 z1 ⊢
  have B2 : Below w.heap.size w w2 := HB1.out.trans (L2.mono (by omega))
  have HT2 := Lib.hid (HT1.out.below L2 (Nat.le_refl _))
  have HSL2 := Lib.hid ((HSL.out.below L2).more L2.size)
  have HO2 := Lib.hid O2
  have HB2 := Lib.hid B2
  have hltp : tp < lp := by obtain ⟨c, hc⟩ := HT1.out.bk_tape; have := hc.lt; omega
  have hnn : lp ≠ tp := by omega
  clear hw2 O2 L2 B2 HT1 HSL HB1 hlp hltp
  go_wp2_with fail
  have hscan := scan_any Av n.1 cv w2 (HR.out.below HB2.out h0) (Nat.lt_of_lt_of_le h0 HB2.out.size) (by rw [HLL.out]; exact hcv1) hcv2 (by rw [HLL.out]; omega) (by rw [HLL.out]; exact HSL2.out)
  rw [HLL.out] at hscan
  with_reducible refine hscan.mono ?_
  rintro e w3 ⟨rv, l, rfl, hrc, hld, hb3⟩
  obtain ⟨F, hF⟩ : ∃ F, framesF ckW (scanW ckW n.1) = F := ⟨_, rfl⟩
  have hFt := scanW_take (ck := ckW) n.1
  rw [hF, HLL.out] at hFt
  rw [hF]
  have HF := Lib.hid hF
  have HFT := Lib.hid hFt.1
  have hFL := hFt.2
  obtain ⟨k, hk⟩ : ∃ k, F.length = k := ⟨_, rfl⟩
  rw [hk] at hFL ⊢
  have HK := Lib.hid hk
  have HO3 := Lib.hid (HO2.out.below hb3 HO2.out.lt)
  have HT3 := Lib.hid (HT2.out.below hb3 (Nat.le_refl _))
  have HB3 := Lib.hid (HB2.out.trans (hb3.mono HB2.out.size))
  have HRC := Lib.hid hrc
  have HLD := Lib.hid hld
  have z3 := hb3.size
  obtain ⟨Ar, cr, rfl, hcr1, hcr2, _⟩ := own_sl hrc.own
  have c31 := HO3.out.cell 1
  have c32 := HO3.out.cell 2
  have f31 := HO3.out.frozen 1
  have f32 := HO3.out.frozen 2
  clear hscan hrc hld hb3 hF hFt hk HO2 HT2 HB2 HSL2
  go_upto_region 7 with fail
  obtain ⟨w4, hw4⟩ : ∃ x, (w3.setCell ⟨lp, 1, none⟩ (.slice Ar l.length cr)).setCell ⟨lp, 2, none⟩ (.int .i64 (l.length : Nat)) = x := ⟨_, rfl⟩
  have HM4 : Hid (Moves (fun k _ => k = lp) w3 w4) := Lib.hid (by
    rw [← hw4]
    exact (Moves.setCell _ _ _ (fun _ _ => rfl)).trans_ (Moves.setCell _ _ _ (fun _ _ => rfl)) (fun _ _ _ h => h))
  have HO4 : Hid (Bk w4 lp 60 #[.pointer (some ⟨tp, 0, none⟩), .slice Ar l.length cr, .int .i64 (l.length : Nat)]) := Lib.hid (by
    rw [← hw4]
    simpa using (HO3.out.set_ 1 (.slice Ar l.length cr)).set_ 2 (.int .i64 (l.length : Nat)))
  have HRC4 : Hid (Recs w4 0 (.slice Ar l.length cr) l) := Lib.hid (HRC.out.low.moves HM4.out (fun k cur _ hk e => by rw [e] at hk; exact Bk.ne_ (g := lp) HO3.out hk (by decide) rfl) (fun k cur hk e => by rw [e] at hk; exact Bk.ne_ (g := lp) HO3.out hk (by decide) rfl))
  have HT4 : Hid (TapeAt w4 tp sv f n st) := Lib.hid (HT3.out.moves HM4.out (fun o e => hnn e.symm) (fun k o hk e => by obtain ⟨c, hc⟩ := HT3.out.own_step hk; rw [e] at hc; exact Bk.ne_ (g := lp) HO3.out hc (by decide) rfl) (fun k cur _ hk e => by rw [e] at hk; exact Bk.ne_ (g := lp) HO3.out hk (by decide) rfl))
  have z4 : w3.heap.size ≤ w4.heap.size := HM4.out.size
  have hfin : ∀ (w5 : World) (sv' : Value), TapeAt w5 tp sv' f (F, k) (st ++ [(F, k)]) → Moves (TapeX tp sv) w4 w5 → (∀ k, sv'.ownBlock = some k → sv.ownBlock = some k ∨ w4.heap.size ≤ k) → OpPost w tp sv f n st (.returned (.tuple #[.pointer (some ⟨lp, 0, none⟩), .int .i64 0])) w5 := by
    intro w5 sv' t5 m5 o5
    have hz : w.heap.size ≤ w3.heap.size := HB3.out.size
    refine ⟨lp, sv', .slice Ar l.length cr, l, rfl, z1, ?_, HLD.out, ?_, fun k hk => (o5 k hk).imp id (fun h => by omega), fun k hk => ?_⟩
    · rw [HF.out, HK.out]
      exact ⟨m5.bk HO4.out (fun e => (⟨HO4.out, HT4.out, HRC4.out⟩ : LogAt w4 lp tp sv _ f n st l l.length).lp_far _ _ e rfl), t5, HRC4.out.tape HT4.out m5⟩
    · have hb4 : Below w.heap.size w w4 := HB3.out.trans (HM4.out.to_below hz (fun k o e => by omega))
      exact (Moves.below (TapeX tp sv) hb4 (Nat.le_refl _)).trans_ m5 (fun _ _ _ h => h)
    · have := (own_cells HRC.out.own hk).1
      omega
  have HFIN := Lib.hid hfin
  have HW4 := Lib.hid hw4
  clear hfin hw4
  go_upto_region 8 with fail
  rw [HW4.out]
  rcases Nat.lt_or_ge k L with hkl | hkl
  · have e1 : decide ((k : Int) < (L : Int)) = true := by simp; omega
    have htr := trim_ok tp sv f n st k w4 HT4.out (by rw [HLL.out]; omega) (by omega)
    rw [show n.1.take k = F from by rw [← HK.out]; exact HFT.out] at htr
    have HTR := Lib.hid htr
    clear htr
    go_wp2_with fail
    with_reducible refine HTR.out.mono ?_
    rintro e w5 ⟨sv', rfl, t5, m5, o5⟩
    have HX := Lib.hid (HFIN.out w5 sv' t5 m5 o5)
    clear t5 m5 o5
    go_wp2_with fail
    go_ret2
    exact HX.out
  · obtain rfl : k = L := by omega
    have e1 : decide ((k : Int) < (k : Int)) = false := by simp
    have hFn : F = n.1 := by have := HFT.out; rw [HK.out, List.take_of_length_le (by rw [HLL.out]; exact Nat.le_refl _)] at this; exact this.symm
    have hsy := sync_any tp sv f n st w4 HT4.out (by omega)
    rw [HLL.out, ← hFn] at hsy
    have HSY := Lib.hid hsy
    clear hsy hFn
    go_wp2_with fail
    with_reducible refine HSY.out.mono ?_
    rintro e w5 ⟨sv', rfl, t5, m5, o5⟩
    have HX := Lib.hid (HFIN.out w5 sv' t5 m5 o5)
    clear t5 m5 o5
    go_wp2_with fail
    go_ret2
    exact HX.out
end Go.Proofs.YtpmmojjffjpmbaaDoor

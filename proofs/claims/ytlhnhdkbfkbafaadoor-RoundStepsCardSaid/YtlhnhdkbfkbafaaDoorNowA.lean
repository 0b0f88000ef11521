/- What this text proves: parts of the contract of a height's method now. The conditions are how the state lies in memory, and that hashes have 32 bytes. -/
import Derived.Test.YtlhnhdkbfkbafaaDoorRoundNow
namespace Go.Proofs.YtlhnhdkbfkbafaaDoor
open Go.RowKit
set_option linter.unusedVariables false
set_option linter.unusedSimpArgs false

set_option maxRecDepth 100000 in
set_option maxHeartbeats 6000000 in
theorem now_k2T (gs : Nat) (s : St) (i : In) (w : World) (hs : s.good) (hi : i.fits) (hb : Bk w gs 25 s.cells.toArray) (hn : None0 w) (h0 : 0 < gs) (hr : 0 ≤ i.round ∧ i.round ≤ 1048576) (s1 : s.step = 1) (k2 : i.kind = 2) (hl : s.lr < 0) :
    Calls Tryd.prog 19 #[.pointer (some ⟨gs, 0, none⟩), .agg i.cells.toArray] w (ToldF w gs (nowF s i)) := by
  have hgl := hb.lt
  have hz := zeros_len
  have hzl : (bts zeros).length = 32 := by rw [bts_len, zeros_len]
  have hbl : (bts i.block).length = 32 := by rw [bts_len, hi.block]
  have hib := hi.block
  have hll : (bts s.locked).length = 32 := by rw [bts_len, hs.locked]
  have hsl := hs.locked
  have hcl := In.cells_len hi
  go_enter Tryd.func19, Tryd.ntmps19
  go_upto_region 1 with fail
  have hm0 := Moves.alloc (fun k _ => k = gs) w (.cells i.cells.toArray 27)
  have HA0 : Hid (At (w.alloc (.cells i.cells.toArray 27)) gs w.heap.size s i) := Lib.hid ⟨hb.alloc _, Bk.new w 27 i.cells.toArray, hn.moves hm0 (fun _ => by omega)⟩
  obtain ⟨w0, hw0⟩ : ∃ w0, w.alloc (.cells i.cells.toArray 27) = w0 := ⟨_, rfl⟩
  obtain ⟨gi, hgi⟩ : ∃ gi, w.heap.size = gi := ⟨_, rfl⟩
  rw [hw0] at HA0 hm0 ⊢
  rw [hgi] at HA0 hgl ⊢
  have hne : gi ≠ gs := by omega
  have HM0 := Lib.hid hm0
  have HP := Lib.hid (fun (b : Bool) W (hA : At W gs gi s i) => prevote_any gs s i b W hs hi hA.S hA.N h0)
  have HG := Lib.hid (fun W (hS : Bk W gs 25 s.cells.toArray) => agreed_any gs s i W hs hi hS h0)
  have HC := Lib.hid (fun W (hS : Bk W gs 25 s.cells.toArray) => precommit_any gs s zeros W hs zeros_len hS)
  clear hw0 hm0 hb hn
  obtain ⟨c0, c1, c2, c34, c35, c67, c68, c100, c101⟩ := st_out HA0.out.S hs
  obtain ⟨d0, d1, d2, d34, d35, d36⟩ := in_out HA0.out.I hi
  have dd := HA0.out.whole
  have hN := HA0.out.N
  have es1 : (s.step == 1) = true := by simpa using s1
  have el : decide (s.lr < 0) = true := by simpa using hl
  go_wp2_with fail
  with_reducible refine wp_still_tail 16 (by kernel_rfl) (by kernel_rfl) fun w1 hw => ?_
  simp only [List.take_succ_cons, List.take_zero, List.drop_succ_cons, List.drop_zero]
  have HA1 : Hid (At w1 gs gi s i) := Lib.hid (by rw [hw]; exact HA0.out.drew)
  have HM1 : Hid (Moves (fun k _ => k = gs) w w1) := Lib.hid (by rw [hw]; exact HM0.out.trans_ (Moves.drew _ _) (fun _ _ _ h => h))
  clear hw
  clear c0 c1 c2 c34 c35 c67 c68 c100 c101 d0 d1 d2 d34 d35 d36 dd hN
  obtain ⟨c0, c1, c2, c34, c35, c67, c68, c100, c101⟩ := st_out HA1.out.S hs
  obtain ⟨d0, d1, d2, d34, d35, d36⟩ := in_out HA1.out.I hi
  have dd := HA1.out.whole
  have hN := HA1.out.N
  ((with_reducible refine wpStill_step (fun K hK => ?_)); go_simp; (with_reducible refine hK _ ?_); clear hK K)
  ((with_reducible apply wpStill_val); (case hw => rfl); (case hr => exact run_load_seg 27 _ (by rfl) gi 0 (by rfl) _ (by assumption) 68 (by assumption) _ Tryd.underlying27 (by rfl) hi_input))
  ((with_reducible refine wpStill_step (fun K hK => ?_)); go_simp; (with_reducible refine hK _ ?_); clear hK K)
  ((with_reducible refine wpStill_step (fun K hK => ?_)); go_simp; (with_reducible refine hK _ ?_); clear hK K)
  ((with_reducible refine wpStill_step (fun K hK => ?_)); go_simp; (with_reducible refine hK _ ?_); clear hK K)
  ((with_reducible refine wpStill_step (fun K hK => ?_)); go_simp; (with_reducible refine hK _ ?_); clear hK K)
  ((with_reducible refine wpStill_step (fun K hK => ?_)); go_simp; (with_reducible refine hK _ ?_); clear hK K)
  ((with_reducible refine wpStill_step (fun K hK => ?_)); go_simp; (with_reducible refine hK _ ?_); clear hK K)
  ((with_reducible refine wpStill_step (fun K hK => ?_)); go_simp; (with_reducible refine hK _ ?_); clear hK K)
  ((with_reducible refine wpStill_step (fun K hK => ?_)); go_simp; (with_reducible refine hK _ ?_); clear hK K)
  ((with_reducible refine wpStill_step (fun K hK => ?_)); go_simp; (with_reducible refine hK _ ?_); clear hK K)
  ((with_reducible refine wpStill_step (fun K hK => ?_)); go_simp; (with_reducible refine hK _ ?_); clear hK K)
  ((with_reducible refine wpStill_step (fun K hK => ?_)); go_simp; (with_reducible refine hK _ ?_); clear hK K)
  ((with_reducible refine wpStill_step (fun K hK => ?_)); go_simp; (with_reducible refine hK _ ?_); clear hK K)
  ((with_reducible refine wpStill_step (fun K hK => ?_)); go_simp; (with_reducible refine hK _ ?_); clear hK K)
  ((with_reducible refine wpStill_step (fun K hK => ?_)); go_simp; (with_reducible refine hK _ ?_); clear hK K)
  with_reducible refine wpStill_nil ?_
  go_wp2_with fail
  with_reducible refine (HP.out true _ HA1.out).mono ?_
  rintro e w9 hT
  obtain ⟨v, rfl, hT2, hT3, hT4⟩ := hT.behind HM1.out
  go_wp2_with fail
  go_ret
  exact toldF_of (prevF s i true) ⟨_, rfl, hT2, hT3, hT4⟩ (by first | (simp [nowF, lateF, lockF, precF, prevF, s1, k2, el]; done) | (simp [nowF, lateF, lockF, precF, prevF, s1, k2, el]; intros; omega))

set_option maxRecDepth 100000 in
set_option maxHeartbeats 6000000 in
theorem now_k2F (gs : Nat) (s : St) (i : In) (w : World) (hs : s.good) (hi : i.fits) (hb : Bk w gs 25 s.cells.toArray) (hn : None0 w) (h0 : 0 < gs) (hr : 0 ≤ i.round ∧ i.round ≤ 1048576) (s1 : s.step = 1) (k2 : i.kind = 2) (hl : ¬ s.lr < 0) :
    Calls Tryd.prog 19 #[.pointer (some ⟨gs, 0, none⟩), .agg i.cells.toArray] w (ToldF w gs (nowF s i)) := by
  have hgl := hb.lt
  have hz := zeros_len
  have hzl : (bts zeros).length = 32 := by rw [bts_len, zeros_len]
  have hbl : (bts i.block).length = 32 := by rw [bts_len, hi.block]
  have hib := hi.block
  have hll : (bts s.locked).length = 32 := by rw [bts_len, hs.locked]
  have hsl := hs.locked
  have hcl := In.cells_len hi
  go_enter Tryd.func19, Tryd.ntmps19
  go_upto_region 1 with fail
  have hm0 := Moves.alloc (fun k _ => k = gs) w (.cells i.cells.toArray 27)
  have HA0 : Hid (At (w.alloc (.cells i.cells.toArray 27)) gs w.heap.size s i) := Lib.hid ⟨hb.alloc _, Bk.new w 27 i.cells.toArray, hn.moves hm0 (fun _ => by omega)⟩
  obtain ⟨w0, hw0⟩ : ∃ w0, w.alloc (.cells i.cells.toArray 27) = w0 := ⟨_, rfl⟩
  obtain ⟨gi, hgi⟩ : ∃ gi, w.heap.size = gi := ⟨_, rfl⟩
  rw [hw0] at HA0 hm0 ⊢
  rw [hgi] at HA0 hgl ⊢
  have hne : gi ≠ gs := by omega
  have HM0 := Lib.hid hm0
  have HP := Lib.hid (fun (b : Bool) W (hA : At W gs gi s i) => prevote_any gs s i b W hs hi hA.S hA.N h0)
  have HG := Lib.hid (fun W (hS : Bk W gs 25 s.cells.toArray) => agreed_any gs s i W hs hi hS h0)
  have HC := Lib.hid (fun W (hS : Bk W gs 25 s.cells.toArray) => precommit_any gs s zeros W hs zeros_len hS)
  clear hw0 hm0 hb hn
  obtain ⟨c0, c1, c2, c34, c35, c67, c68, c100, c101⟩ := st_out HA0.out.S hs
  obtain ⟨d0, d1, d2, d34, d35, d36⟩ := in_out HA0.out.I hi
  have dd := HA0.out.whole
  have hN := HA0.out.N
  have es1 : (s.step == 1) = true := by simpa using s1
  have el : decide (s.lr < 0) = false := by simpa using hl
  go_wp2_with fail
  with_reducible refine wp_still_tail 16 (by kernel_rfl) (by kernel_rfl) fun w1 hw => ?_
  simp only [List.take_succ_cons, List.take_zero, List.drop_succ_cons, List.drop_zero]
  have HA1 : Hid (At w1 gs gi s i) := Lib.hid (by rw [hw]; exact HA0.out.drew)
  have HM1 : Hid (Moves (fun k _ => k = gs) w w1) := Lib.hid (by rw [hw]; exact HM0.out.trans_ (Moves.drew _ _) (fun _ _ _ h => h))
  clear hw
  clear c0 c1 c2 c34 c35 c67 c68 c100 c101 d0 d1 d2 d34 d35 d36 dd hN
  obtain ⟨c0, c1, c2, c34, c35, c67, c68, c100, c101⟩ := st_out HA1.out.S hs
  obtain ⟨d0, d1, d2, d34, d35, d36⟩ := in_out HA1.out.I hi
  have dd := HA1.out.whole
  have hN := HA1.out.N
  ((with_reducible refine wpStill_step (fun K hK => ?_)); go_simp; (with_reducible refine hK _ ?_); clear hK K)
  ((with_reducible apply wpStill_val); (case hw => rfl); (case hr => exact run_load_seg 27 _ (by rfl) gi 0 (by rfl) _ (by assumption) 68 (by assumption) _ Tryd.underlying27 (by rfl) hi_input))
  ((with_reducible refine wpStill_step (fun K hK => ?_)); go_simp; (with_reducible refine hK _ ?_); clear hK K)
  ((with_reducible refine wpStill_step (fun K hK => ?_)); go_simp; (with_reducible refine hK _ ?_); clear hK K)
  ((with_reducible refine wpStill_step (fun K hK => ?_)); go_simp; (with_reducible refine hK _ ?_); clear hK K)
  ((with_reducible refine wpStill_step (fun K hK => ?_)); go_simp; (with_reducible refine hK _ ?_); clear hK K)
  ((with_reducible refine wpStill_step (fun K hK => ?_)); go_simp; (with_reducible refine hK _ ?_); clear hK K)
  ((with_reducible refine wpStill_step (fun K hK => ?_)); go_simp; (with_reducible refine hK _ ?_); clear hK K)
  ((with_reducible refine wpStill_step (fun K hK => ?_)); go_simp; (with_reducible refine hK _ ?_); clear hK K)
  ((with_reducible apply wpStill_val); (case hw => rfl); (case hr => exact run_load_seg 23 _ (by rfl) _ _ (by rfl) _ (by assumption) 32 (by assumption) _ hu_hash (by rfl) hi_hash))
  ((with_reducible refine wpStill_step (fun K hK => ?_)); go_simp; (with_reducible refine hK _ ?_); clear hK K)
  ((with_reducible refine wpStill_step (fun K hK => ?_)); go_simp; (with_reducible refine hK _ ?_); clear hK K)
  ((with_reducible refine wpStill_step (fun K hK => ?_)); go_simp; (with_reducible refine hK _ ?_); clear hK K)
  ((with_reducible apply wpStill_val); (case hw => rfl); (case hr => exact run_load_seg 23 _ (by rfl) _ _ (by rfl) _ (by assumption) 32 (by assumption) _ hu_hash (by rfl) hi_hash))
  ((with_reducible apply wpStill_val); (case hw => rfl); (case hr => exact run_bytes_eql 23 5 _ _ _ (by rfl) 32 hu_hash Tryd.underlying5 hs_u8 hm_hash _ _ (by rfl) (by rfl) (by assumption) (by assumption)))
  ((with_reducible refine wpStill_step (fun K hK => ?_)); go_simp; (with_reducible refine hK _ ?_); clear hK K)
  with_reducible refine wpStill_nil ?_
  go_wp2_with fail
  with_reducible refine (HP.out (i.block == s.locked) _ HA1.out).mono ?_
  rintro e w9 hT
  obtain ⟨v, rfl, hT2, hT3, hT4⟩ := hT.behind HM1.out
  go_wp2_with fail
  go_ret
  exact toldF_of (prevF s i (i.block == s.locked)) ⟨_, rfl, hT2, hT3, hT4⟩ (by first | (simp [nowF, lateF, lockF, precF, prevF, s1, k2, el]; done) | (simp [nowF, lateF, lockF, precF, prevF, s1, k2, el]; intros; omega))

set_option maxRecDepth 100000 in
set_option maxHeartbeats 6000000 in
theorem now_k3T (gs : Nat) (s : St) (i : In) (w : World) (hs : s.good) (hi : i.fits) (hb : Bk w gs 25 s.cells.toArray) (hn : None0 w) (h0 : 0 < gs) (hr : 0 ≤ i.round ∧ i.round ≤ 1048576) (s1 : s.step = 1) (k3 : i.kind = 3) (hv : 0 ≤ i.valid) (hw : i.valid < i.round) (hl : s.lr ≤ i.valid) :
    Calls Tryd.prog 19 #[.pointer (some ⟨gs, 0, none⟩), .agg i.cells.toArray] w (ToldF w gs (nowF s i)) := by
  have hgl := hb.lt
  have hz := zeros_len
  have hzl : (bts zeros).length = 32 := by rw [bts_len, zeros_len]
  have hbl : (bts i.block).length = 32 := by rw [bts_len, hi.block]
  have hib := hi.block
  have hll : (bts s.locked).length = 32 := by rw [bts_len, hs.locked]
  have hsl := hs.locked
  have hcl := In.cells_len hi
  go_enter Tryd.func19, Tryd.ntmps19
  go_upto_region 1 with fail
  have hm0 := Moves.alloc (fun k _ => k = gs) w (.cells i.cells.toArray 27)
  have HA0 : Hid (At (w.alloc (.cells i.cells.toArray 27)) gs w.heap.size s i) := Lib.hid ⟨hb.alloc _, Bk.new w 27 i.cells.toArray, hn.moves hm0 (fun _ => by omega)⟩
  obtain ⟨w0, hw0⟩ : ∃ w0, w.alloc (.cells i.cells.toArray 27) = w0 := ⟨_, rfl⟩
  obtain ⟨gi, hgi⟩ : ∃ gi, w.heap.size = gi := ⟨_, rfl⟩
  rw [hw0] at HA0 hm0 ⊢
  rw [hgi] at HA0 hgl ⊢
  have hne : gi ≠ gs := by omega
  have HM0 := Lib.hid hm0
  have HP := Lib.hid (fun (b : Bool) W (hA : At W gs gi s i) => prevote_any gs s i b W hs hi hA.S hA.N h0)
  have HG := Lib.hid (fun W (hS : Bk W gs 25 s.cells.toArray) => agreed_any gs s i W hs hi hS h0)
  have HC := Lib.hid (fun W (hS : Bk W gs 25 s.cells.toArray) => precommit_any gs s zeros W hs zeros_len hS)
  clear hw0 hm0 hb hn
  obtain ⟨c0, c1, c2, c34, c35, c67, c68, c100, c101⟩ := st_out HA0.out.S hs
  obtain ⟨d0, d1, d2, d34, d35, d36⟩ := in_out HA0.out.I hi
  have dd := HA0.out.whole
  have hN := HA0.out.N
  have es1 : (s.step == 1) = true := by simpa using s1
  have ev : decide (0 ≤ i.valid) = true := by simpa using hv
  have ew : decide (i.valid < i.round) = true := by simpa using hw
  have el : decide (s.lr ≤ i.valid) = true := by simpa using hl
  go_wp2_with fail
  with_reducible refine wp_still_tail 18 (by kernel_rfl) (by kernel_rfl) fun w1 hw => ?_
  simp only [List.take_succ_cons, List.take_zero, List.drop_succ_cons, List.drop_zero]
  have HA1 : Hid (At w1 gs gi s i) := Lib.hid (by rw [hw]; exact HA0.out.drew)
  have HM1 : Hid (Moves (fun k _ => k = gs) w w1) := Lib.hid (by rw [hw]; exact HM0.out.trans_ (Moves.drew _ _) (fun _ _ _ h => h))
  clear hw
  clear c0 c1 c2 c34 c35 c67 c68 c100 c101 d0 d1 d2 d34 d35 d36 dd hN
  obtain ⟨c0, c1, c2, c34, c35, c67, c68, c100, c101⟩ := st_out HA1.out.S hs
  obtain ⟨d0, d1, d2, d34, d35, d36⟩ := in_out HA1.out.I hi
  have dd := HA1.out.whole
  have hN := HA1.out.N
  ((with_reducible refine wpStill_step (fun K hK => ?_)); go_simp; (with_reducible refine hK _ ?_); clear hK K)
  ((with_reducible apply wpStill_val); (case hw => rfl); (case hr => exact run_load_seg 27 _ (by rfl) gi 0 (by rfl) _ (by assumption) 68 (by assumption) _ Tryd.underlying27 (by rfl) hi_input))
  ((with_reducible refine wpStill_step (fun K hK => ?_)); go_simp; (with_reducible refine hK _ ?_); clear hK K)
  ((with_reducible refine wpStill_step (fun K hK => ?_)); go_simp; (with_reducible refine hK _ ?_); clear hK K)
  ((with_reducible refine wpStill_step (fun K hK => ?_)); go_simp; (with_reducible refine hK _ ?_); clear hK K)
  ((with_reducible refine wpStill_step (fun K hK => ?_)); go_simp; (with_reducible refine hK _ ?_); clear hK K)
  ((with_reducible refine wpStill_step (fun K hK => ?_)); go_simp; (with_reducible refine hK _ ?_); clear hK K)
  ((with_reducible refine wpStill_step (fun K hK => ?_)); go_simp; (with_reducible refine hK _ ?_); clear hK K)
  ((with_reducible refine wpStill_step (fun K hK => ?_)); go_simp; (with_reducible refine hK _ ?_); clear hK K)
  ((with_reducible refine wpStill_step (fun K hK => ?_)); go_simp; (with_reducible refine hK _ ?_); clear hK K)
  ((with_reducible refine wpStill_step (fun K hK => ?_)); go_simp; (with_reducible refine hK _ ?_); clear hK K)
  ((with_reducible refine wpStill_step (fun K hK => ?_)); go_simp; (with_reducible refine hK _ ?_); clear hK K)
  ((with_reducible refine wpStill_step (fun K hK => ?_)); go_simp; (with_reducible refine hK _ ?_); clear hK K)
  ((with_reducible refine wpStill_step (fun K hK => ?_)); go_simp; (with_reducible refine hK _ ?_); clear hK K)
  ((with_reducible refine wpStill_step (fun K hK => ?_)); go_simp; (with_reducible refine hK _ ?_); clear hK K)
  ((with_reducible refine wpStill_step (fun K hK => ?_)); go_simp; (with_reducible refine hK _ ?_); clear hK K)
  ((with_reducible refine wpStill_step (fun K hK => ?_)); go_simp; (with_reducible refine hK _ ?_); clear hK K)
  ((with_reducible refine wpStill_step (fun K hK => ?_)); go_simp; (with_reducible refine hK _ ?_); clear hK K)
  with_reducible refine wpStill_nil ?_
  go_wp2_with fail
  with_reducible refine (HP.out true _ HA1.out).mono ?_
  rintro e w9 hT
  obtain ⟨v, rfl, hT2, hT3, hT4⟩ := hT.behind HM1.out
  go_wp2_with fail
  go_ret
  exact toldF_of (prevF s i true) ⟨_, rfl, hT2, hT3, hT4⟩ (by first | (simp [nowF, lateF, lockF, precF, prevF, s1, k3, hv, hw, el]; done) | (simp [nowF, lateF, lockF, precF, prevF, s1, k3, hv, hw, el]; intros; omega))

set_option maxRecDepth 100000 in
set_option maxHeartbeats 6000000 in
theorem now_k3F (gs : Nat) (s : St) (i : In) (w : World) (hs : s.good) (hi : i.fits) (hb : Bk w gs 25 s.cells.toArray) (hn : None0 w) (h0 : 0 < gs) (hr : 0 ≤ i.round ∧ i.round ≤ 1048576) (s1 : s.step = 1) (k3 : i.kind = 3) (hv : 0 ≤ i.valid) (hw : i.valid < i.round) (hl : ¬ s.lr ≤ i.valid) :
    Calls Tryd.prog 19 #[.pointer (some ⟨gs, 0, none⟩), .agg i.cells.toArray] w (ToldF w gs (nowF s i)) := by
  have hgl := hb.lt
  have hz := zeros_len
  have hzl : (bts zeros).length = 32 := by rw [bts_len, zeros_len]
  have hbl : (bts i.block).length = 32 := by rw [bts_len, hi.block]
  have hib := hi.block
  have hll : (bts s.locked).length = 32 := by rw [bts_len, hs.locked]
  have hsl := hs.locked
  have hcl := In.cells_len hi
  go_enter Tryd.func19, Tryd.ntmps19
  go_upto_region 1 with fail
  have hm0 := Moves.alloc (fun k _ => k = gs) w (.cells i.cells.toArray 27)
  have HA0 : Hid (At (w.alloc (.cells i.cells.toArray 27)) gs w.heap.size s i) := Lib.hid ⟨hb.alloc _, Bk.new w 27 i.cells.toArray, hn.moves hm0 (fun _ => by omega)⟩
  obtain ⟨w0, hw0⟩ : ∃ w0, w.alloc (.cells i.cells.toArray 27) = w0 := ⟨_, rfl⟩
  obtain ⟨gi, hgi⟩ : ∃ gi, w.heap.size = gi := ⟨_, rfl⟩
  rw [hw0] at HA0 hm0 ⊢
  rw [hgi] at HA0 hgl ⊢
  have hne : gi ≠ gs := by omega
  have HM0 := Lib.hid hm0
  have HP := Lib.hid (fun (b : Bool) W (hA : At W gs gi s i) => prevote_any gs s i b W hs hi hA.S hA.N h0)
  have HG := Lib.hid (fun W (hS : Bk W gs 25 s.cells.toArray) => agreed_any gs s i W hs hi hS h0)
  have HC := Lib.hid (fun W (hS : Bk W gs 25 s.cells.toArray) => precommit_any gs s zeros W hs zeros_len hS)
  clear hw0 hm0 hb hn
  obtain ⟨c0, c1, c2, c34, c35, c67, c68, c100, c101⟩ := st_out HA0.out.S hs
  obtain ⟨d0, d1, d2, d34, d35, d36⟩ := in_out HA0.out.I hi
  have dd := HA0.out.whole
  have hN := HA0.out.N
  have es1 : (s.step == 1) = true := by simpa using s1
  have ev : decide (0 ≤ i.valid) = true := by simpa using hv
  have ew : decide (i.valid < i.round) = true := by simpa using hw
  have el : decide (s.lr ≤ i.valid) = false := by simpa using hl
  go_wp2_with fail
  with_reducible refine wp_still_tail 18 (by kernel_rfl) (by kernel_rfl) fun w1 hw => ?_
  simp only [List.take_succ_cons, List.take_zero, List.drop_succ_cons, List.drop_zero]
  have HA1 : Hid (At w1 gs gi s i) := Lib.hid (by rw [hw]; exact HA0.out.drew)
  have HM1 : Hid (Moves (fun k _ => k = gs) w w1) := Lib.hid (by rw [hw]; exact HM0.out.trans_ (Moves.drew _ _) (fun _ _ _ h => h))
  clear hw
  clear c0 c1 c2 c34 c35 c67 c68 c100 c101 d0 d1 d2 d34 d35 d36 dd hN
  obtain ⟨c0, c1, c2, c34, c35, c67, c68, c100, c101⟩ := st_out HA1.out.S hs
  obtain ⟨d0, d1, d2, d34, d35, d36⟩ := in_out HA1.out.I hi
  have dd := HA1.out.whole
  have hN := HA1.out.N
  ((with_reducible refine wpStill_step (fun K hK => ?_)); go_simp; (with_reducible refine hK _ ?_); clear hK K)
  ((with_reducible apply wpStill_val); (case hw => rfl); (case hr => exact run_load_seg 27 _ (by rfl) gi 0 (by rfl) _ (by assumption) 68 (by assumption) _ Tryd.underlying27 (by rfl) hi_input))
  ((with_reducible refine wpStill_step (fun K hK => ?_)); go_simp; (with_reducible refine hK _ ?_); clear hK K)
  ((with_reducible refine wpStill_step (fun K hK => ?_)); go_simp; (with_reducible refine hK _ ?_); clear hK K)
  ((with_reducible refine wpStill_step (fun K hK => ?_)); go_simp; (with_reducible refine hK _ ?_); clear hK K)
  ((with_reducible refine wpStill_step (fun K hK => ?_)); go_simp; (with_reducible refine hK _ ?_); clear hK K)
  ((with_reducible refine wpStill_step (fun K hK => ?_)); go_simp; (with_reducible refine hK _ ?_); clear hK K)
  ((with_reducible refine wpStill_step (fun K hK => ?_)); go_simp; (with_reducible refine hK _ ?_); clear hK K)
  ((with_reducible refine wpStill_step (fun K hK => ?_)); go_simp; (with_reducible refine hK _ ?_); clear hK K)
  ((with_reducible refine wpStill_step (fun K hK => ?_)); go_simp; (with_reducible refine hK _ ?_); clear hK K)
  ((with_reducible refine wpStill_step (fun K hK => ?_)); go_simp; (with_reducible refine hK _ ?_); clear hK K)
  ((with_reducible apply wpStill_val); (case hw => rfl); (case hr => exact run_load_seg 23 _ (by rfl) _ _ (by rfl) _ (by assumption) 32 (by assumption) _ hu_hash (by rfl) hi_hash))
  ((with_reducible refine wpStill_step (fun K hK => ?_)); go_simp; (with_reducible refine hK _ ?_); clear hK K)
  ((with_reducible refine wpStill_step (fun K hK => ?_)); go_simp; (with_reducible refine hK _ ?_); clear hK K)
  ((with_reducible refine wpStill_step (fun K hK => ?_)); go_simp; (with_reducible refine hK _ ?_); clear hK K)
  ((with_reducible apply wpStill_val); (case hw => rfl); (case hr => exact run_load_seg 23 _ (by rfl) _ _ (by rfl) _ (by assumption) 32 (by assumption) _ hu_hash (by rfl) hi_hash))
  ((with_reducible apply wpStill_val); (case hw => rfl); (case hr => exact run_bytes_eql 23 5 _ _ _ (by rfl) 32 hu_hash Tryd.underlying5 hs_u8 hm_hash _ _ (by rfl) (by rfl) (by assumption) (by assumption)))
  ((with_reducible refine wpStill_step (fun K hK => ?_)); go_simp; (with_reducible refine hK _ ?_); clear hK K)
  with_reducible refine wpStill_nil ?_
  go_wp2_with fail
  with_reducible refine (HP.out (i.block == s.locked) _ HA1.out).mono ?_
  rintro e w9 hT
  obtain ⟨v, rfl, hT2, hT3, hT4⟩ := hT.behind HM1.out
  go_wp2_with fail
  go_ret
  exact toldF_of (prevF s i (i.block == s.locked)) ⟨_, rfl, hT2, hT3, hT4⟩ (by first | (simp [nowF, lateF, lockF, precF, prevF, s1, k3, hv, hw, el]; done) | (simp [nowF, lateF, lockF, precF, prevF, s1, k3, hv, hw, el]; intros; omega))

set_option maxRecDepth 100000 in
set_option maxHeartbeats 6000000 in
theorem now_k3a (gs : Nat) (s : St) (i : In) (w : World) (hs : s.good) (hi : i.fits) (hb : Bk w gs 25 s.cells.toArray) (hn : None0 w) (h0 : 0 < gs) (hr : 0 ≤ i.round ∧ i.round ≤ 1048576) (s1 : s.step = 1) (k3 : i.kind = 3) (hv : 0 ≤ i.valid) (hw : ¬ i.valid < i.round) :
    Calls Tryd.prog 19 #[.pointer (some ⟨gs, 0, none⟩), .agg i.cells.toArray] w (ToldF w gs (nowF s i)) := by
  have hgl := hb.lt
  have hz := zeros_len
  have hzl : (bts zeros).length = 32 := by rw [bts_len, zeros_len]
  have hbl : (bts i.block).length = 32 := by rw [bts_len, hi.block]
  have hib := hi.block
  have hll : (bts s.locked).length = 32 := by rw [bts_len, hs.locked]
  have hsl := hs.locked
  have hcl := In.cells_len hi
  go_enter Tryd.func19, Tryd.ntmps19
  go_upto_region 1 with fail
  have hm0 := Moves.alloc (fun k _ => k = gs) w (.cells i.cells.toArray 27)
  have HA0 : Hid (At (w.alloc (.cells i.cells.toArray 27)) gs w.heap.size s i) := Lib.hid ⟨hb.alloc _, Bk.new w 27 i.cells.toArray, hn.moves hm0 (fun _ => by omega)⟩
  obtain ⟨w0, hw0⟩ : ∃ w0, w.alloc (.cells i.cells.toArray 27) = w0 := ⟨_, rfl⟩
  obtain ⟨gi, hgi⟩ : ∃ gi, w.heap.size = gi := ⟨_, rfl⟩
  rw [hw0] at HA0 hm0 ⊢
  rw [hgi] at HA0 hgl ⊢
  have hne : gi ≠ gs := by omega
  have HM0 := Lib.hid hm0
  have HP := Lib.hid (fun (b : Bool) W (hA : At W gs gi s i) => prevote_any gs s i b W hs hi hA.S hA.N h0)
  have HG := Lib.hid (fun W (hS : Bk W gs 25 s.cells.toArray) => agreed_any gs s i W hs hi hS h0)
  have HC := Lib.hid (fun W (hS : Bk W gs 25 s.cells.toArray) => precommit_any gs s zeros W hs zeros_len hS)
  clear hw0 hm0 hb hn
  obtain ⟨c0, c1, c2, c34, c35, c67, c68, c100, c101⟩ := st_out HA0.out.S hs
  obtain ⟨d0, d1, d2, d34, d35, d36⟩ := in_out HA0.out.I hi
  have dd := HA0.out.whole
  have hN := HA0.out.N
  have es1 : (s.step == 1) = true := by simpa using s1
  have ev : decide (0 ≤ i.valid) = true := by simpa using hv
  have ew : decide (i.valid < i.round) = false := by simpa using hw
  go_wp2_with fail
  with_reducible refine wp_still_tail 12 (by kernel_rfl) (by kernel_rfl) fun w1 hw => ?_
  simp only [List.take_succ_cons, List.take_zero, List.drop_succ_cons, List.drop_zero]
  have HA1 : Hid (At w1 gs gi s i) := Lib.hid (by rw [hw]; exact HA0.out.drew)
  have HM1 : Hid (Moves (fun k _ => k = gs) w w1) := Lib.hid (by rw [hw]; exact HM0.out.trans_ (Moves.drew _ _) (fun _ _ _ h => h))
  clear hw
  clear c0 c1 c2 c34 c35 c67 c68 c100 c101 d0 d1 d2 d34 d35 d36 dd hN
  obtain ⟨c0, c1, c2, c34, c35, c67, c68, c100, c101⟩ := st_out HA1.out.S hs
  obtain ⟨d0, d1, d2, d34, d35, d36⟩ := in_out HA1.out.I hi
  have dd := HA1.out.whole
  have hN := HA1.out.N
  ((with_reducible refine wpStill_step (fun K hK => ?_)); go_simp; (with_reducible refine hK _ ?_); clear hK K)
  ((with_reducible refine wpStill_step (fun K hK => ?_)); go_simp; (with_reducible refine hK _ ?_); clear hK K)
  ((with_reducible refine wpStill_step (fun K hK => ?_)); go_simp; (with_reducible refine hK _ ?_); clear hK K)
  ((with_reducible refine wpStill_step (fun K hK => ?_)); go_simp; (with_reducible refine hK _ ?_); clear hK K)
  ((with_reducible refine wpStill_step (fun K hK => ?_)); go_simp; (with_reducible refine hK _ ?_); clear hK K)
  ((with_reducible refine wpStill_step (fun K hK => ?_)); go_simp; (with_reducible refine hK _ ?_); clear hK K)
  ((with_reducible refine wpStill_step (fun K hK => ?_)); go_simp; (with_reducible refine hK _ ?_); clear hK K)
  ((with_reducible refine wpStill_step (fun K hK => ?_)); go_simp; (with_reducible refine hK _ ?_); clear hK K)
  ((with_reducible refine wpStill_step (fun K hK => ?_)); go_simp; (with_reducible refine hK _ ?_); clear hK K)
  ((with_reducible refine wpStill_step (fun K hK => ?_)); go_simp; (with_reducible refine hK _ ?_); clear hK K)
  ((with_reducible refine wpStill_step (fun K hK => ?_)); go_simp; (with_reducible refine hK _ ?_); clear hK K)
  ((with_reducible refine wpStill_step (fun K hK => ?_)); go_simp; (with_reducible refine hK _ ?_); clear hK K)
  with_reducible refine wpStill_nil ?_
  go_wp2_with fail
  go_wp2_with fail
  go_ret
  exact toldF_of (s, none) ⟨_, rfl, HA1.out.S, rfl, HM1.out⟩ (by first | (simp [nowF, lateF, lockF, s1, k3, hv, hw]; done) | (simp [nowF, lateF, lockF, s1, k3, hv, hw]; intros; omega))

set_option maxRecDepth 100000 in
set_option maxHeartbeats 6000000 in
theorem now_k3b (gs : Nat) (s : St) (i : In) (w : World) (hs : s.good) (hi : i.fits) (hb : Bk w gs 25 s.cells.toArray) (hn : None0 w) (h0 : 0 < gs) (hr : 0 ≤ i.round ∧ i.round ≤ 1048576) (s1 : s.step = 1) (k3 : i.kind = 3) (hv : ¬ 0 ≤ i.valid) :
    Calls Tryd.prog 19 #[.pointer (some ⟨gs, 0, none⟩), .agg i.cells.toArray] w (ToldF w gs (nowF s i)) := by
  have hgl := hb.lt
  have hz := zeros_len
  have hzl : (bts zeros).length = 32 := by rw [bts_len, zeros_len]
  have hbl : (bts i.block).length = 32 := by rw [bts_len, hi.block]
  have hib := hi.block
  have hll : (bts s.locked).length = 32 := by rw [bts_len, hs.locked]
  have hsl := hs.locked
  have hcl := In.cells_len hi
  go_enter Tryd.func19, Tryd.ntmps19
  go_upto_region 1 with fail
  have hm0 := Moves.alloc (fun k _ => k = gs) w (.cells i.cells.toArray 27)
  have HA0 : Hid (At (w.alloc (.cells i.cells.toArray 27)) gs w.heap.size s i) := Lib.hid ⟨hb.alloc _, Bk.new w 27 i.cells.toArray, hn.moves hm0 (fun _ => by omega)⟩
  obtain ⟨w0, hw0⟩ : ∃ w0, w.alloc (.cells i.cells.toArray 27) = w0 := ⟨_, rfl⟩
  obtain ⟨gi, hgi⟩ : ∃ gi, w.heap.size = gi := ⟨_, rfl⟩
  rw [hw0] at HA0 hm0 ⊢
  rw [hgi] at HA0 hgl ⊢
  have hne : gi ≠ gs := by omega
  have HM0 := Lib.hid hm0
  have HP := Lib.hid (fun (b : Bool) W (hA : At W gs gi s i) => prevote_any gs s i b W hs hi hA.S hA.N h0)
  have HG := Lib.hid (fun W (hS : Bk W gs 25 s.cells.toArray) => agreed_any gs s i W hs hi hS h0)
  have HC := Lib.hid (fun W (hS : Bk W gs 25 s.cells.toArray) => precommit_any gs s zeros W hs zeros_len hS)
  clear hw0 hm0 hb hn
  obtain ⟨c0, c1, c2, c34, c35, c67, c68, c100, c101⟩ := st_out HA0.out.S hs
  obtain ⟨d0, d1, d2, d34, d35, d36⟩ := in_out HA0.out.I hi
  have dd := HA0.out.whole
  have hN := HA0.out.N
  have es1 : (s.step == 1) = true := by simpa using s1
  have ev : decide (0 ≤ i.valid) = false := by simpa using hv
  go_wp2_with fail
  with_reducible refine wp_still_tail 12 (by kernel_rfl) (by kernel_rfl) fun w1 hw => ?_
  simp only [List.take_succ_cons, List.take_zero, List.drop_succ_cons, List.drop_zero]
  have HA1 : Hid (At w1 gs gi s i) := Lib.hid (by rw [hw]; exact HA0.out.drew)
  have HM1 : Hid (Moves (fun k _ => k = gs) w w1) := Lib.hid (by rw [hw]; exact HM0.out.trans_ (Moves.drew _ _) (fun _ _ _ h => h))
  clear hw
  clear c0 c1 c2 c34 c35 c67 c68 c100 c101 d0 d1 d2 d34 d35 d36 dd hN
  obtain ⟨c0, c1, c2, c34, c35, c67, c68, c100, c101⟩ := st_out HA1.out.S hs
  obtain ⟨d0, d1, d2, d34, d35, d36⟩ := in_out HA1.out.I hi
  have dd := HA1.out.whole
  have hN := HA1.out.N
  ((with_reducible refine wpStill_step (fun K hK => ?_)); go_simp; (with_reducible refine hK _ ?_); clear hK K)
  ((with_reducible refine wpStill_step (fun K hK => ?_)); go_simp; (with_reducible refine hK _ ?_); clear hK K)
  ((with_reducible refine wpStill_step (fun K hK => ?_)); go_simp; (with_reducible refine hK _ ?_); clear hK K)
  ((with_reducible refine wpStill_step (fun K hK => ?_)); go_simp; (with_reducible refine hK _ ?_); clear hK K)
  ((with_reducible refine wpStill_step (fun K hK => ?_)); go_simp; (with_reducible refine hK _ ?_); clear hK K)
  ((with_reducible refine wpStill_step (fun K hK => ?_)); go_simp; (with_reducible refine hK _ ?_); clear hK K)
  ((with_reducible refine wpStill_step (fun K hK => ?_)); go_simp; (with_reducible refine hK _ ?_); clear hK K)
  ((with_reducible refine wpStill_step (fun K hK => ?_)); go_simp; (with_reducible refine hK _ ?_); clear hK K)
  ((with_reducible refine wpStill_step (fun K hK => ?_)); go_simp; (with_reducible refine hK _ ?_); clear hK K)
  ((with_reducible refine wpStill_step (fun K hK => ?_)); go_simp; (with_reducible refine hK _ ?_); clear hK K)
  ((with_reducible refine wpStill_step (fun K hK => ?_)); go_simp; (with_reducible refine hK _ ?_); clear hK K)
  ((with_reducible refine wpStill_step (fun K hK => ?_)); go_simp; (with_reducible refine hK _ ?_); clear hK K)
  with_reducible refine wpStill_nil ?_
  go_wp2_with fail
  go_wp2_with fail
  go_ret
  exact toldF_of (s, none) ⟨_, rfl, HA1.out.S, rfl, HM1.out⟩ (by first | (simp [nowF, lateF, lockF, s1, k3, hv]; done) | (simp [nowF, lateF, lockF, s1, k3, hv]; intros; omega))

set_option maxRecDepth 100000 in
set_option maxHeartbeats 6000000 in
theorem now_k10 (gs : Nat) (s : St) (i : In) (w : World) (hs : s.good) (hi : i.fits) (hb : Bk w gs 25 s.cells.toArray) (hn : None0 w) (h0 : 0 < gs) (hr : 0 ≤ i.round ∧ i.round ≤ 1048576) (s1 : s.step = 1) (k10 : i.kind = 10) :
    Calls Tryd.prog 19 #[.pointer (some ⟨gs, 0, none⟩), .agg i.cells.toArray] w (ToldF w gs (nowF s i)) := by
  have hgl := hb.lt
  have hz := zeros_len
  have hzl : (bts zeros).length = 32 := by rw [bts_len, zeros_len]
  have hbl : (bts i.block).length = 32 := by rw [bts_len, hi.block]
  have hib := hi.block
  have hll : (bts s.locked).length = 32 := by rw [bts_len, hs.locked]
  have hsl := hs.locked
  have hcl := In.cells_len hi
  go_enter Tryd.func19, Tryd.ntmps19
  go_upto_region 1 with fail
  have hm0 := Moves.alloc (fun k _ => k = gs) w (.cells i.cells.toArray 27)
  have HA0 : Hid (At (w.alloc (.cells i.cells.toArray 27)) gs w.heap.size s i) := Lib.hid ⟨hb.alloc _, Bk.new w 27 i.cells.toArray, hn.moves hm0 (fun _ => by omega)⟩
  obtain ⟨w0, hw0⟩ : ∃ w0, w.alloc (.cells i.cells.toArray 27) = w0 := ⟨_, rfl⟩
  obtain ⟨gi, hgi⟩ : ∃ gi, w.heap.size = gi := ⟨_, rfl⟩
  rw [hw0] at HA0 hm0 ⊢
  rw [hgi] at HA0 hgl ⊢
  have hne : gi ≠ gs := by omega
  have HM0 := Lib.hid hm0
  have HP := Lib.hid (fun (b : Bool) W (hA : At W gs gi s i) => prevote_any gs s i b W hs hi hA.S hA.N h0)
  have HG := Lib.hid (fun W (hS : Bk W gs 25 s.cells.toArray) => agreed_any gs s i W hs hi hS h0)
  have HC := Lib.hid (fun W (hS : Bk W gs 25 s.cells.toArray) => precommit_any gs s zeros W hs zeros_len hS)
  clear hw0 hm0 hb hn
  obtain ⟨c0, c1, c2, c34, c35, c67, c68, c100, c101⟩ := st_out HA0.out.S hs
  obtain ⟨d0, d1, d2, d34, d35, d36⟩ := in_out HA0.out.I hi
  have dd := HA0.out.whole
  have hN := HA0.out.N
  have es1 : (s.step == 1) = true := by simpa using s1
  go_wp2_with (refine wpList_val (by rfl) (run_load_seg 27 _ (by with_reducible rfl) gi 0 (by rfl) _ (by assumption) 68 (by assumption) _ Tryd.underlying27 (by rfl) hi_input) ?_)
  with_reducible refine (HP.out false _ HA0.out).mono ?_
  rintro e w9 hT
  obtain ⟨v, rfl, hT2, hT3, hT4⟩ := hT.behind HM0.out
  go_wp2_with fail
  go_ret
  exact toldF_of (prevF s i false) ⟨_, rfl, hT2, hT3, hT4⟩ (by first | (simp [nowF, lateF, lockF, precF, prevF, s1, k10]; done) | (simp [nowF, lateF, lockF, precF, prevF, s1, k10]; intros; omega))
end Go.Proofs.YtlhnhdkbfkbafaaDoor

/- What this text proves: parts of the contract of a height's method now. The conditions are how the state lies in memory, and that hashes have 32 bytes. -/
import Derived.Test.YtlhnhdkbfkbafaaDoorRoundNow
namespace Go.Proofs.YtlhnhdkbfkbafaaDoor
open Go.RowKit
set_option linter.unusedVariables false
set_option linter.unusedSimpArgs false

set_option maxRecDepth 100000 in
set_option maxHeartbeats 6000000 in
theorem now_lock2 (gs : Nat) (s : St) (i : In) (w : World) (hs : s.good) (hi : i.fits) (hb : Bk w gs 25 s.cells.toArray) (hn : None0 w) (h0 : 0 < gs) (hr : 0 ≤ i.round ∧ i.round ≤ 1048576) (s2 : s.step = 2) (n4 : ¬ i.kind = 4) (n6 : ¬ i.kind = 6) (n11 : ¬ i.kind = 11) :
    Calls Tryd.prog 19 #[.pointer (some ⟨gs, 0, none⟩), .agg i.cells.toArray] w (ToldF w gs (nowF s i)) := by
  have hgl := hb.lt
  have hz := zeros_len
  have hzl : (bts zeros).length = 32 := by rw [bts_len, zeros_len]
  have hbl : (bts i.block).length = 32 := by rw [bts_len, hi.block]
  have hib := hi.block
  have hll : (bts s.locked).length = 32 := by rw [bts_len, hs.locked]
  have hsl := hs.locked
  have hcl := In.cells_len hi
  go_enter Tryd.func19, Tryd.ntmps19
  go_upto_region 1 with fail
  have hm0 := Moves.alloc (fun k _ => k = gs) w (.cells i.cells.toArray 27)
  have HA0 : Hid (At (w.alloc (.cells i.cells.toArray 27)) gs w.heap.size s i) := Lib.hid ⟨hb.alloc _, Bk.new w 27 i.cells.toArray, hn.moves hm0 (fun _ => by omega)⟩
  obtain ⟨w0, hw0⟩ : ∃ w0, w.alloc (.cells i.cells.toArray 27) = w0 := ⟨_, rfl⟩
  obtain ⟨gi, hgi⟩ : ∃ gi, w.heap.size = gi := ⟨_, rfl⟩
  rw [hw0] at HA0 hm0 ⊢
  rw [hgi] at HA0 hgl ⊢
  have hne : gi ≠ gs := by omega
  have HM0 := Lib.hid hm0
  have HP := Lib.hid (fun (b : Bool) W (hA : At W gs gi s i) => prevote_any gs s i b W hs hi hA.S hA.N h0)
  have HG := Lib.hid (fun W (hS : Bk W gs 25 s.cells.toArray) => agreed_any gs s i W hs hi hS h0)
  have HC := Lib.hid (fun W (hS : Bk W gs 25 s.cells.toArray) => precommit_any gs s zeros W hs zeros_len hS)
  clear hw0 hm0 hb hn
  obtain ⟨c0, c1, c2, c34, c35, c67, c68, c100, c101⟩ := st_out HA0.out.S hs
  obtain ⟨d0, d1, d2, d34, d35, d36⟩ := in_out HA0.out.I hi
  have dd := HA0.out.whole
  have hN := HA0.out.N
  have es1 : (s.step == 1) = false := by simp [s2]
  have es2 : (s.step == 2) = true := by simpa using s2
  have en4 : (i.kind == 4) = false := by simpa using n4
  have en6 : (i.kind == 6) = false := by simpa using n6
  have en11 : (i.kind == 11) = false := by simpa using n11
  by_cases k5 : i.kind = 5
  · have ek5 : (i.kind == 5) = true := by simpa using k5
    by_cases hg : i.good = true
    · skip
      by_cases hz5 : i.block = zeros
      · have ez5 : (!(i.block == zeros)) = false := by simp [hz5]
        go_wp2_with fail
        with_reducible refine wp_still_tail 21 (by kernel_rfl) (by kernel_rfl) fun w1 hw => ?_
        simp only [List.take_succ_cons, List.take_zero, List.drop_succ_cons, List.drop_zero]
        have HA1 : Hid (At w1 gs gi s i) := Lib.hid (by rw [hw]; exact HA0.out.drew)
        have HM1 : Hid (Moves (fun k _ => k = gs) w w1) := Lib.hid (by rw [hw]; exact HM0.out.trans_ (Moves.drew _ _) (fun _ _ _ h => h))
        clear hw
        clear c0 c1 c2 c34 c35 c67 c68 c100 c101 d0 d1 d2 d34 d35 d36 dd hN
        obtain ⟨c0, c1, c2, c34, c35, c67, c68, c100, c101⟩ := st_out HA1.out.S hs
        obtain ⟨d0, d1, d2, d34, d35, d36⟩ := in_out HA1.out.I hi
        have dd := HA1.out.whole
        have hN := HA1.out.N
        ((with_reducible refine wpStill_step (fun K hK => ?_)); go_simp; (with_reducible refine hK _ ?_); clear hK K)
        ((with_reducible refine wpStill_step (fun K hK => ?_)); go_simp; (with_reducible refine hK _ ?_); clear hK K)
        ((with_reducible refine wpStill_step (fun K hK => ?_)); go_simp; (with_reducible refine hK _ ?_); clear hK K)
        ((with_reducible refine wpStill_step (fun K hK => ?_)); go_simp; (with_reducible refine hK _ ?_); clear hK K)
        ((with_reducible refine wpStill_step (fun K hK => ?_)); go_simp; (with_reducible refine hK _ ?_); clear hK K)
        ((with_reducible refine wpStill_step (fun K hK => ?_)); go_simp; (with_reducible refine hK _ ?_); clear hK K)
        ((with_reducible refine wpStill_step (fun K hK => ?_)); go_simp; (with_reducible refine hK _ ?_); clear hK K)
        ((with_reducible refine wpStill_step (fun K hK => ?_)); go_simp; (with_reducible refine hK _ ?_); clear hK K)
        ((with_reducible refine wpStill_step (fun K hK => ?_)); go_simp; (with_reducible refine hK _ ?_); clear hK K)
        ((with_reducible apply wpStill_val); (case hw => rfl); (case hr => exact run_load_seg 23 _ (by rfl) _ _ (by rfl) _ (by assumption) 32 (by assumption) _ hu_hash (by rfl) hi_hash))
        ((with_reducible apply wpStill_val); (case hw => rfl); (case hr => exact run_load_seg 23 _ (by rfl) 0 0 (by rfl) _ (by assumption) 32 (by assumption) _ hu_hash (by rfl) hi_hash))
        ((with_reducible apply wpStill_val); (case hw => rfl); (case hr => exact run_bytes_neq 23 5 _ _ _ (by rfl) 32 hu_hash Tryd.underlying5 hs_u8 hm_hash _ _ (by rfl) (by rfl) (by assumption) (by assumption)))
        ((with_reducible refine wpStill_step (fun K hK => ?_)); go_simp; (with_reducible refine hK _ ?_); clear hK K)
        ((with_reducible refine wpStill_step (fun K hK => ?_)); go_simp; (with_reducible refine hK _ ?_); clear hK K)
        ((with_reducible refine wpStill_step (fun K hK => ?_)); go_simp; (with_reducible refine hK _ ?_); clear hK K)
        ((with_reducible refine wpStill_step (fun K hK => ?_)); go_simp; (with_reducible refine hK _ ?_); clear hK K)
        ((with_reducible refine wpStill_step (fun K hK => ?_)); go_simp; (with_reducible refine hK _ ?_); clear hK K)
        ((with_reducible refine wpStill_step (fun K hK => ?_)); go_simp; (with_reducible refine hK _ ?_); clear hK K)
        ((with_reducible refine wpStill_step (fun K hK => ?_)); go_simp; (with_reducible refine hK _ ?_); clear hK K)
        ((with_reducible refine wpStill_step (fun K hK => ?_)); go_simp; (with_reducible refine hK _ ?_); clear hK K)
        ((with_reducible refine wpStill_step (fun K hK => ?_)); go_simp; (with_reducible refine hK _ ?_); clear hK K)
        with_reducible refine wpStill_nil ?_
        go_wp2_with fail
        with_reducible refine wp_still_tail 12 (by kernel_rfl) (by kernel_rfl) fun w2 hw => ?_
        simp only [List.take_succ_cons, List.take_zero, List.drop_succ_cons, List.drop_zero]
        have HA2 : Hid (At w2 gs gi s i) := Lib.hid (by rw [hw]; exact HA1.out.drew)
        have HM2 : Hid (Moves (fun k _ => k = gs) w w2) := Lib.hid (by rw [hw]; exact HM1.out.trans_ (Moves.drew _ _) (fun _ _ _ h => h))
        clear hw
        clear c0 c1 c2 c34 c35 c67 c68 c100 c101 d0 d1 d2 d34 d35 d36 dd hN
        obtain ⟨c0, c1, c2, c34, c35, c67, c68, c100, c101⟩ := st_out HA2.out.S hs
        obtain ⟨d0, d1, d2, d34, d35, d36⟩ := in_out HA2.out.I hi
        have dd := HA2.out.whole
        have hN := HA2.out.N
        ((with_reducible refine wpStill_step (fun K hK => ?_)); go_simp; (with_reducible refine hK _ ?_); clear hK K)
        ((with_reducible refine wpStill_step (fun K hK => ?_)); go_simp; (with_reducible refine hK _ ?_); clear hK K)
        ((with_reducible refine wpStill_step (fun K hK => ?_)); go_simp; (with_reducible refine hK _ ?_); clear hK K)
        ((with_reducible refine wpStill_step (fun K hK => ?_)); go_simp; (with_reducible refine hK _ ?_); clear hK K)
        ((with_reducible refine wpStill_step (fun K hK => ?_)); go_simp; (with_reducible refine hK _ ?_); clear hK K)
        ((with_reducible refine wpStill_step (fun K hK => ?_)); go_simp; (with_reducible refine hK _ ?_); clear hK K)
        ((with_reducible refine wpStill_step (fun K hK => ?_)); go_simp; (with_reducible refine hK _ ?_); clear hK K)
        ((with_reducible refine wpStill_step (fun K hK => ?_)); go_simp; (with_reducible refine hK _ ?_); clear hK K)
        ((with_reducible refine wpStill_step (fun K hK => ?_)); go_simp; (with_reducible refine hK _ ?_); clear hK K)
        ((with_reducible refine wpStill_step (fun K hK => ?_)); go_simp; (with_reducible refine hK _ ?_); clear hK K)
        ((with_reducible refine wpStill_step (fun K hK => ?_)); go_simp; (with_reducible refine hK _ ?_); clear hK K)
        ((with_reducible refine wpStill_step (fun K hK => ?_)); go_simp; (with_reducible refine hK _ ?_); clear hK K)
        with_reducible refine wpStill_nil ?_
        go_wp2_with fail
        go_wp2_with fail
        go_ret
        exact toldF_of (s, none) ⟨_, rfl, HA2.out.S, rfl, HM2.out⟩ (by first | (simp [nowF, lateF, lockF, s2, n4, n6, n11, k5, hz5]; done) | (simp [nowF, lateF, lockF, s2, n4, n6, n11, k5, hz5]; intros; omega))
      · have ez5 : (!(i.block == zeros)) = true := by simpa using hz5
        by_cases hv : s.vr < i.round
        · have ev : (decide (s.vr < i.round)) = true := by simpa using hv
          go_wp2_with fail
          with_reducible refine wp_still_tail 21 (by kernel_rfl) (by kernel_rfl) fun w1 hw => ?_
          simp only [List.take_succ_cons, List.take_zero, List.drop_succ_cons, List.drop_zero]
          have HA1 : Hid (At w1 gs gi s i) := Lib.hid (by rw [hw]; exact HA0.out.drew)
          have HM1 : Hid (Moves (fun k _ => k = gs) w w1) := Lib.hid (by rw [hw]; exact HM0.out.trans_ (Moves.drew _ _) (fun _ _ _ h => h))
          clear hw
          clear c0 c1 c2 c34 c35 c67 c68 c100 c101 d0 d1 d2 d34 d35 d36 dd hN
          obtain ⟨c0, c1, c2, c34, c35, c67, c68, c100, c101⟩ := st_out HA1.out.S hs
          obtain ⟨d0, d1, d2, d34, d35, d36⟩ := in_out HA1.out.I hi
          have dd := HA1.out.whole
          have hN := HA1.out.N
          ((with_reducible refine wpStill_step (fun K hK => ?_)); go_simp; (with_reducible refine hK _ ?_); clear hK K)
          ((with_reducible refine wpStill_step (fun K hK => ?_)); go_simp; (with_reducible refine hK _ ?_); clear hK K)
          ((with_reducible refine wpStill_step (fun K hK => ?_)); go_simp; (with_reducible refine hK _ ?_); clear hK K)
          ((with_reducible refine wpStill_step (fun K hK => ?_)); go_simp; (with_reducible refine hK _ ?_); clear hK K)
          ((with_reducible refine wpStill_step (fun K hK => ?_)); go_simp; (with_reducible refine hK _ ?_); clear hK K)
          ((with_reducible refine wpStill_step (fun K hK => ?_)); go_simp; (with_reducible refine hK _ ?_); clear hK K)
          ((with_reducible refine wpStill_step (fun K hK => ?_)); go_simp; (with_reducible refine hK _ ?_); clear hK K)
          ((with_reducible refine wpStill_step (fun K hK => ?_)); go_simp; (with_reducible refine hK _ ?_); clear hK K)
          ((with_reducible refine wpStill_step (fun K hK => ?_)); go_simp; (with_reducible refine hK _ ?_); clear hK K)
          ((with_reducible apply wpStill_val); (case hw => rfl); (case hr => exact run_load_seg 23 _ (by rfl) _ _ (by rfl) _ (by assumption) 32 (by assumption) _ hu_hash (by rfl) hi_hash))
          ((with_reducible apply wpStill_val); (case hw => rfl); (case hr => exact run_load_seg 23 _ (by rfl) 0 0 (by rfl) _ (by assumption) 32 (by assumption) _ hu_hash (by rfl) hi_hash))
          ((with_reducible apply wpStill_val); (case hw => rfl); (case hr => exact run_bytes_neq 23 5 _ _ _ (by rfl) 32 hu_hash Tryd.underlying5 hs_u8 hm_hash _ _ (by rfl) (by rfl) (by assumption) (by assumption)))
          ((with_reducible refine wpStill_step (fun K hK => ?_)); go_simp; (with_reducible refine hK _ ?_); clear hK K)
          ((with_reducible refine wpStill_step (fun K hK => ?_)); go_simp; (with_reducible refine hK _ ?_); clear hK K)
          ((with_reducible refine wpStill_step (fun K hK => ?_)); go_simp; (with_reducible refine hK _ ?_); clear hK K)
          ((with_reducible refine wpStill_step (fun K hK => ?_)); go_simp; (with_reducible refine hK _ ?_); clear hK K)
          ((with_reducible refine wpStill_step (fun K hK => ?_)); go_simp; (with_reducible refine hK _ ?_); clear hK K)
          ((with_reducible refine wpStill_step (fun K hK => ?_)); go_simp; (with_reducible refine hK _ ?_); clear hK K)
          ((with_reducible refine wpStill_step (fun K hK => ?_)); go_simp; (with_reducible refine hK _ ?_); clear hK K)
          ((with_reducible refine wpStill_step (fun K hK => ?_)); go_simp; (with_reducible refine hK _ ?_); clear hK K)
          ((with_reducible refine wpStill_step (fun K hK => ?_)); go_simp; (with_reducible refine hK _ ?_); clear hK K)
          with_reducible refine wpStill_nil ?_
          go_wp2_with (refine wpList_val (by rfl) (run_load_seg 27 _ (by with_reducible rfl) gi 0 (by rfl) _ (by assumption) 68 (by assumption) _ Tryd.underlying27 (by rfl) hi_input) ?_)
          with_reducible refine (HG.out _ HA1.out.S).mono ?_
          rintro e w9 hT
          obtain ⟨v, rfl, hT2, hT3, hT4⟩ := hT.behind HM1.out
          go_wp2_with fail
          go_ret
          exact toldF_of (agreedF s i) ⟨_, rfl, hT2, hT3, hT4⟩ (by first | (simp [nowF, lateF, lockF, precF, prevF, s2, n4, n6, n11, k5, hg, hz5, hv]; done) | (simp [nowF, lateF, lockF, precF, prevF, s2, n4, n6, n11, k5, hg, hz5, hv]; intros; omega))
        · have ev : (decide (s.vr < i.round)) = false := by simpa using hv
          go_wp2_with fail
          with_reducible refine wp_still_tail 21 (by kernel_rfl) (by kernel_rfl) fun w1 hw => ?_
          simp only [List.take_succ_cons, List.take_zero, List.drop_succ_cons, List.drop_zero]
          have HA1 : Hid (At w1 gs gi s i) := Lib.hid (by rw [hw]; exact HA0.out.drew)
          have HM1 : Hid (Moves (fun k _ => k = gs) w w1) := Lib.hid (by rw [hw]; exact HM0.out.trans_ (Moves.drew _ _) (fun _ _ _ h => h))
          clear hw
          clear c0 c1 c2 c34 c35 c67 c68 c100 c101 d0 d1 d2 d34 d35 d36 dd hN
          obtain ⟨c0, c1, c2, c34, c35, c67, c68, c100, c101⟩ := st_out HA1.out.S hs
          obtain ⟨d0, d1, d2, d34, d35, d36⟩ := in_out HA1.out.I hi
          have dd := HA1.out.whole
          have hN := HA1.out.N
          ((with_reducible refine wpStill_step (fun K hK => ?_)); go_simp; (with_reducible refine hK _ ?_); clear hK K)
          ((with_reducible refine wpStill_step (fun K hK => ?_)); go_simp; (with_reducible refine hK _ ?_); clear hK K)
          ((with_reducible refine wpStill_step (fun K hK => ?_)); go_simp; (with_reducible refine hK _ ?_); clear hK K)
          ((with_reducible refine wpStill_step (fun K hK => ?_)); go_simp; (with_reducible refine hK _ ?_); clear hK K)
          ((with_reducible refine wpStill_step (fun K hK => ?_)); go_simp; (with_reducible refine hK _ ?_); clear hK K)
          ((with_reducible refine wpStill_step (fun K hK => ?_)); go_simp; (with_reducible refine hK _ ?_); clear hK K)
          ((with_reducible refine wpStill_step (fun K hK => ?_)); go_simp; (with_reducible refine hK _ ?_); clear hK K)
          ((with_reducible refine wpStill_step (fun K hK => ?_)); go_simp; (with_reducible refine hK _ ?_); clear hK K)
          ((with_reducible refine wpStill_step (fun K hK => ?_)); go_simp; (with_reducible refine hK _ ?_); clear hK K)
          ((with_reducible apply wpStill_val); (case hw => rfl); (case hr => exact run_load_seg 23 _ (by rfl) _ _ (by rfl) _ (by assumption) 32 (by assumption) _ hu_hash (by rfl) hi_hash))
          ((with_reducible apply wpStill_val); (case hw => rfl); (case hr => exact run_load_seg 23 _ (by rfl) 0 0 (by rfl) _ (by assumption) 32 (by assumption) _ hu_hash (by rfl) hi_hash))
          ((with_reducible apply wpStill_val); (case hw => rfl); (case hr => exact run_bytes_neq 23 5 _ _ _ (by rfl) 32 hu_hash Tryd.underlying5 hs_u8 hm_hash _ _ (by rfl) (by rfl) (by assumption) (by assumption)))
          ((with_reducible refine wpStill_step (fun K hK => ?_)); go_simp; (with_reducible refine hK _ ?_); clear hK K)
          ((with_reducible refine wpStill_step (fun K hK => ?_)); go_simp; (with_reducible refine hK _ ?_); clear hK K)
          ((with_reducible refine wpStill_step (fun K hK => ?_)); go_simp; (with_reducible refine hK _ ?_); clear hK K)
          ((with_reducible refine wpStill_step (fun K hK => ?_)); go_simp; (with_reducible refine hK _ ?_); clear hK K)
          ((with_reducible refine wpStill_step (fun K hK => ?_)); go_simp; (with_reducible refine hK _ ?_); clear hK K)
          ((with_reducible refine wpStill_step (fun K hK => ?_)); go_simp; (with_reducible refine hK _ ?_); clear hK K)
          ((with_reducible refine wpStill_step (fun K hK => ?_)); go_simp; (with_reducible refine hK _ ?_); clear hK K)
          ((with_reducible refine wpStill_step (fun K hK => ?_)); go_simp; (with_reducible refine hK _ ?_); clear hK K)
          ((with_reducible refine wpStill_step (fun K hK => ?_)); go_simp; (with_reducible refine hK _ ?_); clear hK K)
          with_reducible refine wpStill_nil ?_
          go_wp2_with fail
          with_reducible refine wp_still_tail 12 (by kernel_rfl) (by kernel_rfl) fun w2 hw => ?_
          simp only [List.take_succ_cons, List.take_zero, List.drop_succ_cons, List.drop_zero]
          have HA2 : Hid (At w2 gs gi s i) := Lib.hid (by rw [hw]; exact HA1.out.drew)
          have HM2 : Hid (Moves (fun k _ => k = gs) w w2) := Lib.hid (by rw [hw]; exact HM1.out.trans_ (Moves.drew _ _) (fun _ _ _ h => h))
          clear hw
          clear c0 c1 c2 c34 c35 c67 c68 c100 c101 d0 d1 d2 d34 d35 d36 dd hN
          obtain ⟨c0, c1, c2, c34, c35, c67, c68, c100, c101⟩ := st_out HA2.out.S hs
          obtain ⟨d0, d1, d2, d34, d35, d36⟩ := in_out HA2.out.I hi
          have dd := HA2.out.whole
          have hN := HA2.out.N
          ((with_reducible refine wpStill_step (fun K hK => ?_)); go_simp; (with_reducible refine hK _ ?_); clear hK K)
          ((with_reducible refine wpStill_step (fun K hK => ?_)); go_simp; (with_reducible refine hK _ ?_); clear hK K)
          ((with_reducible refine wpStill_step (fun K hK => ?_)); go_simp; (with_reducible refine hK _ ?_); clear hK K)
          ((with_reducible refine wpStill_step (fun K hK => ?_)); go_simp; (with_reducible refine hK _ ?_); clear hK K)
          ((with_reducible refine wpStill_step (fun K hK => ?_)); go_simp; (with_reducible refine hK _ ?_); clear hK K)
          ((with_reducible refine wpStill_step (fun K hK => ?_)); go_simp; (with_reducible refine hK _ ?_); clear hK K)
          ((with_reducible refine wpStill_step (fun K hK => ?_)); go_simp; (with_reducible refine hK _ ?_); clear hK K)
          ((with_reducible refine wpStill_step (fun K hK => ?_)); go_simp; (with_reducible refine hK _ ?_); clear hK K)
          ((with_reducible refine wpStill_step (fun K hK => ?_)); go_simp; (with_reducible refine hK _ ?_); clear hK K)
          ((with_reducible refine wpStill_step (fun K hK => ?_)); go_simp; (with_reducible refine hK _ ?_); clear hK K)
          ((with_reducible refine wpStill_step (fun K hK => ?_)); go_simp; (with_reducible refine hK _ ?_); clear hK K)
          ((with_reducible refine wpStill_step (fun K hK => ?_)); go_simp; (with_reducible refine hK _ ?_); clear hK K)
          with_reducible refine wpStill_nil ?_
          go_wp2_with fail
          go_wp2_with fail
          go_ret
          exact toldF_of (s, none) ⟨_, rfl, HA2.out.S, rfl, HM2.out⟩ (by first | (simp [nowF, lateF, lockF, s2, n4, n6, n11, k5, hv]; done) | (simp [nowF, lateF, lockF, s2, n4, n6, n11, k5, hv]; intros; omega))
    · rw [Bool.not_eq_true] at hg
      go_wp2_with fail
      with_reducible refine wp_still_tail 21 (by kernel_rfl) (by kernel_rfl) fun w1 hw => ?_
      simp only [List.take_succ_cons, List.take_zero, List.drop_succ_cons, List.drop_zero]
      have HA1 : Hid (At w1 gs gi s i) := Lib.hid (by rw [hw]; exact HA0.out.drew)
      have HM1 : Hid (Moves (fun k _ => k = gs) w w1) := Lib.hid (by rw [hw]; exact HM0.out.trans_ (Moves.drew _ _) (fun _ _ _ h => h))
      clear hw
      clear c0 c1 c2 c34 c35 c67 c68 c100 c101 d0 d1 d2 d34 d35 d36 dd hN
      obtain ⟨c0, c1, c2, c34, c35, c67, c68, c100, c101⟩ := st_out HA1.out.S hs
      obtain ⟨d0, d1, d2, d34, d35, d36⟩ := in_out HA1.out.I hi
      have dd := HA1.out.whole
      have hN := HA1.out.N
      ((with_reducible refine wpStill_step (fun K hK => ?_)); go_simp; (with_reducible refine hK _ ?_); clear hK K)
      ((with_reducible refine wpStill_step (fun K hK => ?_)); go_simp; (with_reducible refine hK _ ?_); clear hK K)
      ((with_reducible refine wpStill_step (fun K hK => ?_)); go_simp; (with_reducible refine hK _ ?_); clear hK K)
      ((with_reducible refine wpStill_step (fun K hK => ?_)); go_simp; (with_reducible refine hK _ ?_); clear hK K)
      ((with_reducible refine wpStill_step (fun K hK => ?_)); go_simp; (with_reducible refine hK _ ?_); clear hK K)
      ((with_reducible refine wpStill_step (fun K hK => ?_)); go_simp; (with_reducible refine hK _ ?_); clear hK K)
      ((with_reducible refine wpStill_step (fun K hK => ?_)); go_simp; (with_reducible refine hK _ ?_); clear hK K)
      ((with_reducible refine wpStill_step (fun K hK => ?_)); go_simp; (with_reducible refine hK _ ?_); clear hK K)
      ((with_reducible refine wpStill_step (fun K hK => ?_)); go_simp; (with_reducible refine hK _ ?_); clear hK K)
      ((with_reducible refine wpStill_step (fun K hK => ?_)); go_simp; (with_reducible refine hK _ ?_); clear hK K)
      ((with_reducible refine wpStill_step (fun K hK => ?_)); go_simp; (with_reducible refine hK _ ?_); clear hK K)
      ((with_reducible refine wpStill_step (fun K hK => ?_)); go_simp; (with_reducible refine hK _ ?_); clear hK K)
      ((with_reducible refine wpStill_step (fun K hK => ?_)); go_simp; (with_reducible refine hK _ ?_); clear hK K)
      ((with_reducible refine wpStill_step (fun K hK => ?_)); go_simp; (with_reducible refine hK _ ?_); clear hK K)
      ((with_reducible refine wpStill_step (fun K hK => ?_)); go_simp; (with_reducible refine hK _ ?_); clear hK K)
      ((with_reducible refine wpStill_step (fun K hK => ?_)); go_simp; (with_reducible refine hK _ ?_); clear hK K)
      ((with_reducible refine wpStill_step (fun K hK => ?_)); go_simp; (with_reducible refine hK _ ?_); clear hK K)
      ((with_reducible refine wpStill_step (fun K hK => ?_)); go_simp; (with_reducible refine hK _ ?_); clear hK K)
      ((with_reducible refine wpStill_step (fun K hK => ?_)); go_simp; (with_reducible refine hK _ ?_); clear hK K)
      ((with_reducible refine wpStill_step (fun K hK => ?_)); go_simp; (with_reducible refine hK _ ?_); clear hK K)
      ((with_reducible refine wpStill_step (fun K hK => ?_)); go_simp; (with_reducible refine hK _ ?_); clear hK K)
      with_reducible refine wpStill_nil ?_
      go_wp2_with fail
      with_reducible refine wp_still_tail 12 (by kernel_rfl) (by kernel_rfl) fun w2 hw => ?_
      simp only [List.take_succ_cons, List.take_zero, List.drop_succ_cons, List.drop_zero]
      have HA2 : Hid (At w2 gs gi s i) := Lib.hid (by rw [hw]; exact HA1.out.drew)
      have HM2 : Hid (Moves (fun k _ => k = gs) w w2) := Lib.hid (by rw [hw]; exact HM1.out.trans_ (Moves.drew _ _) (fun _ _ _ h => h))
      clear hw
      clear c0 c1 c2 c34 c35 c67 c68 c100 c101 d0 d1 d2 d34 d35 d36 dd hN
      obtain ⟨c0, c1, c2, c34, c35, c67, c68, c100, c101⟩ := st_out HA2.out.S hs
      obtain ⟨d0, d1, d2, d34, d35, d36⟩ := in_out HA2.out.I hi
      have dd := HA2.out.whole
      have hN := HA2.out.N
      ((with_reducible refine wpStill_step (fun K hK => ?_)); go_simp; (with_reducible refine hK _ ?_); clear hK K)
      ((with_reducible refine wpStill_step (fun K hK => ?_)); go_simp; (with_reducible refine hK _ ?_); clear hK K)
      ((with_reducible refine wpStill_step (fun K hK => ?_)); go_simp; (with_reducible refine hK _ ?_); clear hK K)
      ((with_reducible refine wpStill_step (fun K hK => ?_)); go_simp; (with_reducible refine hK _ ?_); clear hK K)
      ((with_reducible refine wpStill_step (fun K hK => ?_)); go_simp; (with_reducible refine hK _ ?_); clear hK K)
      ((with_reducible refine wpStill_step (fun K hK => ?_)); go_simp; (with_reducible refine hK _ ?_); clear hK K)
      ((with_reducible refine wpStill_step (fun K hK => ?_)); go_simp; (with_reducible refine hK _ ?_); clear hK K)
      ((with_reducible refine wpStill_step (fun K hK => ?_)); go_simp; (with_reducible refine hK _ ?_); clear hK K)
      ((with_reducible refine wpStill_step (fun K hK => ?_)); go_simp; (with_reducible refine hK _ ?_); clear hK K)
      ((with_reducible refine wpStill_step (fun K hK => ?_)); go_simp; (with_reducible refine hK _ ?_); clear hK K)
      ((with_reducible refine wpStill_step (fun K hK => ?_)); go_simp; (with_reducible refine hK _ ?_); clear hK K)
      ((with_reducible refine wpStill_step (fun K hK => ?_)); go_simp; (with_reducible refine hK _ ?_); clear hK K)
      with_reducible refine wpStill_nil ?_
      go_wp2_with fail
      go_wp2_with fail
      go_ret
      exact toldF_of (s, none) ⟨_, rfl, HA2.out.S, rfl, HM2.out⟩ (by first | (simp [nowF, lateF, lockF, s2, n4, n6, n11, k5, hg]; done) | (simp [nowF, lateF, lockF, s2, n4, n6, n11, k5, hg]; intros; omega))
  · have ek5 : (i.kind == 5) = false := by simpa using k5
    go_wp2_with fail
    with_reducible refine wp_still_tail 21 (by kernel_rfl) (by kernel_rfl) fun w1 hw => ?_
    simp only [List.take_succ_cons, List.take_zero, List.drop_succ_cons, List.drop_zero]
    have HA1 : Hid (At w1 gs gi s i) := Lib.hid (by rw [hw]; exact HA0.out.drew)
    have HM1 : Hid (Moves (fun k _ => k = gs) w w1) := Lib.hid (by rw [hw]; exact HM0.out.trans_ (Moves.drew _ _) (fun _ _ _ h => h))
    clear hw
    clear c0 c1 c2 c34 c35 c67 c68 c100 c101 d0 d1 d2 d34 d35 d36 dd hN
    obtain ⟨c0, c1, c2, c34, c35, c67, c68, c100, c101⟩ := st_out HA1.out.S hs
    obtain ⟨d0, d1, d2, d34, d35, d36⟩ := in_out HA1.out.I hi
    have dd := HA1.out.whole
    have hN := HA1.out.N
    ((with_reducible refine wpStill_step (fun K hK => ?_)); go_simp; (with_reducible refine hK _ ?_); clear hK K)
    ((with_reducible refine wpStill_step (fun K hK => ?_)); go_simp; (with_reducible refine hK _ ?_); clear hK K)
    ((with_reducible refine wpStill_step (fun K hK => ?_)); go_simp; (with_reducible refine hK _ ?_); clear hK K)
    ((with_reducible refine wpStill_step (fun K hK => ?_)); go_simp; (with_reducible refine hK _ ?_); clear hK K)
    ((with_reducible refine wpStill_step (fun K hK => ?_)); go_simp; (with_reducible refine hK _ ?_); clear hK K)
    ((with_reducible refine wpStill_step (fun K hK => ?_)); go_simp; (with_reducible refine hK _ ?_); clear hK K)
    ((with_reducible refine wpStill_step (fun K hK => ?_)); go_simp; (with_reducible refine hK _ ?_); clear hK K)
    ((with_reducible refine wpStill_step (fun K hK => ?_)); go_simp; (with_reducible refine hK _ ?_); clear hK K)
    ((with_reducible refine wpStill_step (fun K hK => ?_)); go_simp; (with_reducible refine hK _ ?_); clear hK K)
    ((with_reducible refine wpStill_step (fun K hK => ?_)); go_simp; (with_reducible refine hK _ ?_); clear hK K)
    ((with_reducible refine wpStill_step (fun K hK => ?_)); go_simp; (with_reducible refine hK _ ?_); clear hK K)
    ((with_reducible refine wpStill_step (fun K hK => ?_)); go_simp; (with_reducible refine hK _ ?_); clear hK K)
    ((with_reducible refine wpStill_step (fun K hK => ?_)); go_simp; (with_reducible refine hK _ ?_); clear hK K)
    ((with_reducible refine wpStill_step (fun K hK => ?_)); go_simp; (with_reducible refine hK _ ?_); clear hK K)
    ((with_reducible refine wpStill_step (fun K hK => ?_)); go_simp; (with_reducible refine hK _ ?_); clear hK K)
    ((with_reducible refine wpStill_step (fun K hK => ?_)); go_simp; (with_reducible refine hK _ ?_); clear hK K)
    ((with_reducible refine wpStill_step (fun K hK => ?_)); go_simp; (with_reducible refine hK _ ?_); clear hK K)
    ((with_reducible refine wpStill_step (fun K hK => ?_)); go_simp; (with_reducible refine hK _ ?_); clear hK K)
    ((with_reducible refine wpStill_step (fun K hK => ?_)); go_simp; (with_reducible refine hK _ ?_); clear hK K)
    ((with_reducible refine wpStill_step (fun K hK => ?_)); go_simp; (with_reducible refine hK _ ?_); clear hK K)
    ((with_reducible refine wpStill_step (fun K hK => ?_)); go_simp; (with_reducible refine hK _ ?_); clear hK K)
    with_reducible refine wpStill_nil ?_
    by_cases k7 : i.kind = 7
    · have ek7 : (i.kind == 7) = true := by simpa using k7
      by_cases hw7 : s.waited < i.round
      · have ew7 : (decide (s.waited < i.round)) = true := by simpa using hw7
        go_wp2_with fail
        with_reducible refine wp_still_tail 12 (by kernel_rfl) (by kernel_rfl) fun w2 hw => ?_
        simp only [List.take_succ_cons, List.take_zero, List.drop_succ_cons, List.drop_zero]
        have HA2 : Hid (At w2 gs gi s i) := Lib.hid (by rw [hw]; exact HA1.out.drew)
        have HM2 : Hid (Moves (fun k _ => k = gs) w w2) := Lib.hid (by rw [hw]; exact HM1.out.trans_ (Moves.drew _ _) (fun _ _ _ h => h))
        clear hw
        clear c0 c1 c2 c34 c35 c67 c68 c100 c101 d0 d1 d2 d34 d35 d36 dd hN
        obtain ⟨c0, c1, c2, c34, c35, c67, c68, c100, c101⟩ := st_out HA2.out.S hs
        obtain ⟨d0, d1, d2, d34, d35, d36⟩ := in_out HA2.out.I hi
        have dd := HA2.out.whole
        have hN := HA2.out.N
        ((with_reducible refine wpStill_step (fun K hK => ?_)); go_simp; (with_reducible refine hK _ ?_); clear hK K)
        ((with_reducible refine wpStill_step (fun K hK => ?_)); go_simp; (with_reducible refine hK _ ?_); clear hK K)
        ((with_reducible refine wpStill_step (fun K hK => ?_)); go_simp; (with_reducible refine hK _ ?_); clear hK K)
        ((with_reducible refine wpStill_step (fun K hK => ?_)); go_simp; (with_reducible refine hK _ ?_); clear hK K)
        ((with_reducible refine wpStill_step (fun K hK => ?_)); go_simp; (with_reducible refine hK _ ?_); clear hK K)
        ((with_reducible refine wpStill_step (fun K hK => ?_)); go_simp; (with_reducible refine hK _ ?_); clear hK K)
        ((with_reducible refine wpStill_step (fun K hK => ?_)); go_simp; (with_reducible refine hK _ ?_); clear hK K)
        ((with_reducible refine wpStill_step (fun K hK => ?_)); go_simp; (with_reducible refine hK _ ?_); clear hK K)
        ((with_reducible refine wpStill_step (fun K hK => ?_)); go_simp; (with_reducible refine hK _ ?_); clear hK K)
        ((with_reducible refine wpStill_step (fun K hK => ?_)); go_simp; (with_reducible refine hK _ ?_); clear hK K)
        ((with_reducible refine wpStill_step (fun K hK => ?_)); go_simp; (with_reducible refine hK _ ?_); clear hK K)
        ((with_reducible refine wpStill_step (fun K hK => ?_)); go_simp; (with_reducible refine hK _ ?_); clear hK K)
        with_reducible refine wpStill_nil ?_
        go_upto_region 25 with fail
        have f9 := HA2.out.S.frozen 101
        have HA9 := Lib.hid (HA2.out.set_waited hs hne h0 i.round)
        have HM9 := Lib.hid (HM2.out.trans_ (Moves.setCell (X := fun k _ => k = gs) w2 ⟨gs, 101, none⟩ (.int .i64 i.round) (fun _ _ => rfl)) (fun _ _ _ h => h))
        go_upto_region 26 with fail
        obtain ⟨w8, hw8⟩ : ∃ w8, w2.setCell ⟨gs, 101, none⟩ (.int .i64 i.round) = w8 := ⟨_, rfl⟩
        rw [hw8] at HA9 HM9 ⊢
        clear hw8 f9
        clear c0 c1 c2 c34 c35 c67 c68 c100 c101 d0 d1 d2 d34 d35 d36 dd hN
        have d1 := (in_out HA9.out.I hi).2.1
        have hN := HA9.out.N
        go_wp2_with (refine wpList_val (by rfl) (run_load_seg 23 _ (by with_reducible rfl) 0 0 (by rfl) _ (by assumption) 32 (by assumption) _ hu_hash (by rfl) hi_hash) ?_)
        with_reducible refine (say_at 6 i.round 0 zeros zeros_len _).mono ?_
        rintro e w9 ⟨u, rfl, ho, hb3⟩
        go_wp2_with fail
        go_ret
        exact toldF_of ({s with waited := i.round}, some ⟨6, i.round, zeros, 0⟩) (told_of HA9.out.S HM9.out ho hb3) (by first | (simp [nowF, lateF, lockF, s2, n4, n6, n11, k5, k7, hw7]; done) | (simp [nowF, lateF, lockF, s2, n4, n6, n11, k5, k7, hw7]; intros; omega))
      · have ew7 : (decide (s.waited < i.round)) = false := by simpa using hw7
        go_wp2_with fail
        with_reducible refine wp_still_tail 12 (by kernel_rfl) (by kernel_rfl) fun w2 hw => ?_
        simp only [List.take_succ_cons, List.take_zero, List.drop_succ_cons, List.drop_zero]
        have HA2 : Hid (At w2 gs gi s i) := Lib.hid (by rw [hw]; exact HA1.out.drew)
        have HM2 : Hid (Moves (fun k _ => k = gs) w w2) := Lib.hid (by rw [hw]; exact HM1.out.trans_ (Moves.drew _ _) (fun _ _ _ h => h))
        clear hw
        clear c0 c1 c2 c34 c35 c67 c68 c100 c101 d0 d1 d2 d34 d35 d36 dd hN
        obtain ⟨c0, c1, c2, c34, c35, c67, c68, c100, c101⟩ := st_out HA2.out.S hs
        obtain ⟨d0, d1, d2, d34, d35, d36⟩ := in_out HA2.out.I hi
        have dd := HA2.out.whole
        have hN := HA2.out.N
        ((with_reducible refine wpStill_step (fun K hK => ?_)); go_simp; (with_reducible refine hK _ ?_); clear hK K)
        ((with_reducible refine wpStill_step (fun K hK => ?_)); go_simp; (with_reducible refine hK _ ?_); clear hK K)
        ((with_reducible refine wpStill_step (fun K hK => ?_)); go_simp; (with_reducible refine hK _ ?_); clear hK K)
        ((with_reducible refine wpStill_step (fun K hK => ?_)); go_simp; (with_reducible refine hK _ ?_); clear hK K)
        ((with_reducible refine wpStill_step (fun K hK => ?_)); go_simp; (with_reducible refine hK _ ?_); clear hK K)
        ((with_reducible refine wpStill_step (fun K hK => ?_)); go_simp; (with_reducible refine hK _ ?_); clear hK K)
        ((with_reducible refine wpStill_step (fun K hK => ?_)); go_simp; (with_reducible refine hK _ ?_); clear hK K)
        ((with_reducible refine wpStill_step (fun K hK => ?_)); go_simp; (with_reducible refine hK _ ?_); clear hK K)
        ((with_reducible refine wpStill_step (fun K hK => ?_)); go_simp; (with_reducible refine hK _ ?_); clear hK K)
        ((with_reducible refine wpStill_step (fun K hK => ?_)); go_simp; (with_reducible refine hK _ ?_); clear hK K)
        ((with_reducible refine wpStill_step (fun K hK => ?_)); go_simp; (with_reducible refine hK _ ?_); clear hK K)
        ((with_reducible refine wpStill_step (fun K hK => ?_)); go_simp; (with_reducible refine hK _ ?_); clear hK K)
        with_reducible refine wpStill_nil ?_
        go_wp2_with fail
        go_wp2_with fail
        go_ret
        exact toldF_of (s, none) ⟨_, rfl, HA2.out.S, rfl, HM2.out⟩ (by first | (simp [nowF, lateF, lockF, s2, n4, n6, n11, k5, k7, hw7]; done) | (simp [nowF, lateF, lockF, s2, n4, n6, n11, k5, k7, hw7]; intros; omega))
    · have ek7 : (i.kind == 7) = false := by simpa using k7
      by_cases k12 : i.kind = 12
      · have ek12 : (i.kind == 12) = true := by simpa using k12
        by_cases h12 : i.round < 1048576
        · have e12 : (decide (i.round < 1048576)) = true := by simpa using h12
          go_wp2_with fail
          with_reducible refine wp_still_tail 12 (by kernel_rfl) (by kernel_rfl) fun w2 hw => ?_
          simp only [List.take_succ_cons, List.take_zero, List.drop_succ_cons, List.drop_zero]
          have HA2 : Hid (At w2 gs gi s i) := Lib.hid (by rw [hw]; exact HA1.out.drew)
          have HM2 : Hid (Moves (fun k _ => k = gs) w w2) := Lib.hid (by rw [hw]; exact HM1.out.trans_ (Moves.drew _ _) (fun _ _ _ h => h))
          clear hw
          clear c0 c1 c2 c34 c35 c67 c68 c100 c101 d0 d1 d2 d34 d35 d36 dd hN
          obtain ⟨c0, c1, c2, c34, c35, c67, c68, c100, c101⟩ := st_out HA2.out.S hs
          obtain ⟨d0, d1, d2, d34, d35, d36⟩ := in_out HA2.out.I hi
          have dd := HA2.out.whole
          have hN := HA2.out.N
          ((with_reducible refine wpStill_step (fun K hK => ?_)); go_simp; (with_reducible refine hK _ ?_); clear hK K)
          ((with_reducible refine wpStill_step (fun K hK => ?_)); go_simp; (with_reducible refine hK _ ?_); clear hK K)
          ((with_reducible refine wpStill_step (fun K hK => ?_)); go_simp; (with_reducible refine hK _ ?_); clear hK K)
          ((with_reducible refine wpStill_step (fun K hK => ?_)); go_simp; (with_reducible refine hK _ ?_); clear hK K)
          ((with_reducible refine wpStill_step (fun K hK => ?_)); go_simp; (with_reducible refine hK _ ?_); clear hK K)
          ((with_reducible refine wpStill_step (fun K hK => ?_)); go_simp; (with_reducible refine hK _ ?_); clear hK K)
          ((with_reducible refine wpStill_step (fun K hK => ?_)); go_simp; (with_reducible refine hK _ ?_); clear hK K)
          ((with_reducible refine wpStill_step (fun K hK => ?_)); go_simp; (with_reducible refine hK _ ?_); clear hK K)
          ((with_reducible refine wpStill_step (fun K hK => ?_)); go_simp; (with_reducible refine hK _ ?_); clear hK K)
          ((with_reducible refine wpStill_step (fun K hK => ?_)); go_simp; (with_reducible refine hK _ ?_); clear hK K)
          ((with_reducible refine wpStill_step (fun K hK => ?_)); go_simp; (with_reducible refine hK _ ?_); clear hK K)
          ((with_reducible refine wpStill_step (fun K hK => ?_)); go_simp; (with_reducible refine hK _ ?_); clear hK K)
          with_reducible refine wpStill_nil ?_
          have hwr : wrap64 (i.round + 1) = i.round + 1 := by unfold wrap64; omega
          go_upto_region 28 with fail
          go_wp2_with (refine wpList_val (by rfl) (run_load_seg 23 _ (by with_reducible rfl) 0 0 (by rfl) _ (by assumption) 32 (by assumption) _ hu_hash (by rfl) hi_hash) ?_)
          with_reducible refine (say_at 7 (i.round + 1) 0 zeros zeros_len _).mono ?_
          rintro e w9 ⟨u, rfl, ho, hb3⟩
          go_wp2_with fail
          go_ret
          exact toldF_of ((s, some ⟨7, i.round + 1, zeros, 0⟩)) (told_of HA2.out.S HM2.out ho hb3) (by first | (simp [nowF, lateF, lockF, s2, n4, n6, n11, k5, k7, k12, h12]; done) | (simp [nowF, lateF, lockF, s2, n4, n6, n11, k5, k7, k12, h12]; intros; omega))
        · have e12 : (decide (i.round < 1048576)) = false := by simpa using h12
          go_wp2_with fail
          with_reducible refine wp_still_tail 12 (by kernel_rfl) (by kernel_rfl) fun w2 hw => ?_
          simp only [List.take_succ_cons, List.take_zero, List.drop_succ_cons, List.drop_zero]
          have HA2 : Hid (At w2 gs gi s i) := Lib.hid (by rw [hw]; exact HA1.out.drew)
          have HM2 : Hid (Moves (fun k _ => k = gs) w w2) := Lib.hid (by rw [hw]; exact HM1.out.trans_ (Moves.drew _ _) (fun _ _ _ h => h))
          clear hw
          clear c0 c1 c2 c34 c35 c67 c68 c100 c101 d0 d1 d2 d34 d35 d36 dd hN
          obtain ⟨c0, c1, c2, c34, c35, c67, c68, c100, c101⟩ := st_out HA2.out.S hs
          obtain ⟨d0, d1, d2, d34, d35, d36⟩ := in_out HA2.out.I hi
          have dd := HA2.out.whole
          have hN := HA2.out.N
          ((with_reducible refine wpStill_step (fun K hK => ?_)); go_simp; (with_reducible refine hK _ ?_); clear hK K)
          ((with_reducible refine wpStill_step (fun K hK => ?_)); go_simp; (with_reducible refine hK _ ?_); clear hK K)
          ((with_reducible refine wpStill_step (fun K hK => ?_)); go_simp; (with_reducible refine hK _ ?_); clear hK K)
          ((with_reducible refine wpStill_step (fun K hK => ?_)); go_simp; (with_reducible refine hK _ ?_); clear hK K)
          ((with_reducible refine wpStill_step (fun K hK => ?_)); go_simp; (with_reducible refine hK _ ?_); clear hK K)
          ((with_reducible refine wpStill_step (fun K hK => ?_)); go_simp; (with_reducible refine hK _ ?_); clear hK K)
          ((with_reducible refine wpStill_step (fun K hK => ?_)); go_simp; (with_reducible refine hK _ ?_); clear hK K)
          ((with_reducible refine wpStill_step (fun K hK => ?_)); go_simp; (with_reducible refine hK _ ?_); clear hK K)
          ((with_reducible refine wpStill_step (fun K hK => ?_)); go_simp; (with_reducible refine hK _ ?_); clear hK K)
          ((with_reducible refine wpStill_step (fun K hK => ?_)); go_simp; (with_reducible refine hK _ ?_); clear hK K)
          ((with_reducible refine wpStill_step (fun K hK => ?_)); go_simp; (with_reducible refine hK _ ?_); clear hK K)
          ((with_reducible refine wpStill_step (fun K hK => ?_)); go_simp; (with_reducible refine hK _ ?_); clear hK K)
          with_reducible refine wpStill_nil ?_
          go_wp2_with fail
          go_wp2_with fail
          go_ret
          exact toldF_of (s, none) ⟨_, rfl, HA2.out.S, rfl, HM2.out⟩ (by first | (simp [nowF, lateF, lockF, s2, n4, n6, n11, k5, k7, k12, h12]; done) | (simp [nowF, lateF, lockF, s2, n4, n6, n11, k5, k7, k12, h12]; intros; omega))
      · have ek12 : (i.kind == 12) = false := by simpa using k12
        go_wp2_with fail
        with_reducible refine wp_still_tail 12 (by kernel_rfl) (by kernel_rfl) fun w2 hw => ?_
        simp only [List.take_succ_cons, List.take_zero, List.drop_succ_cons, List.drop_zero]
        have HA2 : Hid (At w2 gs gi s i) := Lib.hid (by rw [hw]; exact HA1.out.drew)
        have HM2 : Hid (Moves (fun k _ => k = gs) w w2) := Lib.hid (by rw [hw]; exact HM1.out.trans_ (Moves.drew _ _) (fun _ _ _ h => h))
        clear hw
        clear c0 c1 c2 c34 c35 c67 c68 c100 c101 d0 d1 d2 d34 d35 d36 dd hN
        obtain ⟨c0, c1, c2, c34, c35, c67, c68, c100, c101⟩ := st_out HA2.out.S hs
        obtain ⟨d0, d1, d2, d34, d35, d36⟩ := in_out HA2.out.I hi
        have dd := HA2.out.whole
        have hN := HA2.out.N
        ((with_reducible refine wpStill_step (fun K hK => ?_)); go_simp; (with_reducible refine hK _ ?_); clear hK K)
        ((with_reducible refine wpStill_step (fun K hK => ?_)); go_simp; (with_reducible refine hK _ ?_); clear hK K)
        ((with_reducible refine wpStill_step (fun K hK => ?_)); go_simp; (with_reducible refine hK _ ?_); clear hK K)
        ((with_reducible refine wpStill_step (fun K hK => ?_)); go_simp; (with_reducible refine hK _ ?_); clear hK K)
        ((with_reducible refine wpStill_step (fun K hK => ?_)); go_simp; (with_reducible refine hK _ ?_); clear hK K)
        ((with_reducible refine wpStill_step (fun K hK => ?_)); go_simp; (with_reducible refine hK _ ?_); clear hK K)
        ((with_reducible refine wpStill_step (fun K hK => ?_)); go_simp; (with_reducible refine hK _ ?_); clear hK K)
        ((with_reducible refine wpStill_step (fun K hK => ?_)); go_simp; (with_reducible refine hK _ ?_); clear hK K)
        ((with_reducible refine wpStill_step (fun K hK => ?_)); go_simp; (with_reducible refine hK _ ?_); clear hK K)
        ((with_reducible refine wpStill_step (fun K hK => ?_)); go_simp; (with_reducible refine hK _ ?_); clear hK K)
        ((with_reducible refine wpStill_step (fun K hK => ?_)); go_simp; (with_reducible refine hK _ ?_); clear hK K)
        ((with_reducible refine wpStill_step (fun K hK => ?_)); go_simp; (with_reducible refine hK _ ?_); clear hK K)
        with_reducible refine wpStill_nil ?_
        go_wp2_with fail
        go_wp2_with fail
        go_ret
        exact toldF_of (s, none) ⟨_, rfl, HA2.out.S, rfl, HM2.out⟩ (by first | (simp [nowF, lateF, lockF, s2, n4, n6, n11, k5, k7, k12]; done) | (simp [nowF, lateF, lockF, s2, n4, n6, n11, k5, k7, k12]; intros; omega))
end Go.Proofs.YtlhnhdkbfkbafaaDoor

/- What this text proves: the contracts of a height's methods begin and agreed. The conditions are how the state lies in memory, and that hashes have 32 bytes. -/
import Derived.Test.YtlhnhdkbfkbafaaDoorRoundDo
namespace Go.Proofs.YtlhnhdkbfkbafaaDoor
open Go.RowKit
set_option linter.unusedVariables false
set_option linter.unusedSimpArgs false

theorem told_of2 {w W w3 : World} {gs : Nat} {s' : St} {oo oo' : Option Out} {u : Value} (hS : Bk W gs 25 s'.cells.toArray) (hm : Moves (fun k _ => k = gs) w W) (ho : OutAt w3 W.heap.size u oo) (hb : Below W.heap.size W w3) (he : oo' = oo) : Told w gs s' oo' (.returned u) w3 := by
  subst he
  exact told_of hS hm ho hb

def beginOut (s : St) (i : In) : Out := if i.own = zeros then ⟨4, i.round, zeros, 0⟩ else if 0 ≤ s.vr then ⟨1, i.round, s.valid, s.vr⟩ else ⟨1, i.round, i.own, -1⟩

set_option maxRecDepth 100000 in
set_option maxHeartbeats 4000000 in
theorem begin_any (gs : Nat) (s : St) (i : In) (w : World) (hs : s.good) (hi : i.fits) (hb : Bk w gs 25 s.cells.toArray) (hn : None0 w) (h0 : 0 < gs) :
    Calls Tryd.prog 17 #[.pointer (some ⟨gs, 0, none⟩), .agg i.cells.toArray] w (Told w gs {s with round := i.round, step := 1} (some (beginOut s i))) := by
  have hgl := hb.lt
  go_enter Tryd.func17, Tryd.ntmps17
  go_upto_region 1 with fail
  have hI0 := Bk.new w 27 i.cells.toArray
  have hS0 := hb.alloc (.cells i.cells.toArray 27)
  have hm0 := Moves.alloc (fun k _ => k = gs) w (.cells i.cells.toArray 27)
  obtain ⟨w0, hw0⟩ : ∃ w0, w.alloc (.cells i.cells.toArray 27) = w0 := ⟨_, rfl⟩
  obtain ⟨gi, hgi⟩ : ∃ gi, w.heap.size = gi := ⟨_, rfl⟩
  rw [hw0] at hI0 hS0 hm0 ⊢
  rw [hgi] at hI0 hgl ⊢
  obtain ⟨c0, c1, _⟩ := st_out hS0 hs
  have f0 := hS0.frozen 0
  have f1 := hS0.frozen 1
  obtain ⟨d0, d1, d2, d34, d35, d36⟩ := in_out hI0 hi
  have hS1 := set_step (set_round hS0 i.round) 1
  have hI1 := (hI0.far (p := ⟨gs, 0, none⟩) (show gi ≠ gs by omega) (.int .i64 i.round)).far (p := ⟨gs, 1, none⟩) (show gi ≠ gs by omega) (.int .i64 1)
  have hm1 := (hm0.trans_ (Moves.setCell (X := fun k _ => k = gs) w0 ⟨gs, 0, none⟩ (.int .i64 i.round) (fun _ _ => rfl)) (fun _ _ _ h => h)).trans_ (Moves.setCell (X := fun k _ => k = gs) _ ⟨gs, 1, none⟩ (.int .i64 1) (fun _ _ => rfl)) (fun _ _ _ h => h)
  clear hw0
  go_upto_region 2 with fail
  obtain ⟨w1, hw1⟩ : ∃ w1, ((w0.setCell ⟨gs, 0, none⟩ (.int .i64 i.round)).setCell ⟨gs, 1, none⟩ (.int .i64 1)) = w1 := ⟨_, rfl⟩
  rw [hw1] at hS1 hI1 hm1 ⊢
  clear hw1 hS0 hI0 hm0 c0 c1 f0 f1 d0 d1 d2 d34 d35 d36
  have hN1 : w1.rangeAt 0 0 (bts zeros) := hn.moves hm1 (fun _ => by omega)
  obtain ⟨c0, c1, c2, c34, c35, c67, c68, c100, c101⟩ := st_out hS1 ⟨hs.locked, hs.valid, hs.block⟩
  obtain ⟨d0, d1, d2, d34, d35, d36⟩ := in_out hI1 hi
  have hzl : (bts zeros).length = 32 := by rw [bts_len, zeros_len]
  have hz := zeros_len
  have hol : (bts i.own).length = 32 := by rw [bts_len, hi.own]
  have ho := hi.own
  have HS1 := Lib.hid hS1
  have HM1 := Lib.hid hm1
  have hvl : (bts s.valid).length = 32 := by rw [bts_len, hs.valid]
  have H4 := Lib.hid (fun W => say_at 4 i.round 0 zeros zeros_len W)
  have HV := Lib.hid (fun W => say_at 1 i.round s.vr s.valid hs.valid W)
  have HO := Lib.hid (fun W => say_at 1 i.round (-1) i.own hi.own W)
  obtain ⟨ik, ir, ib, iv, ig, io⟩ := i
  obtain ⟨sr, ss, sl, slr, sv, svr, sb, swa, swd⟩ := s
  simp only at *
  clear hS1 hI1 hm1 hgi hb hn hs hi c0 c1 c2 c34 c68 c100 c101
  by_cases h1 : io = zeros
  · have e1 : (io == zeros) = true := by rw [beq_iff_eq]; exact h1
    go_wp2_with (first | (refine wpList_val (by rfl) (run_load_seg 23 _ (by with_reducible rfl) _ _ (by rfl) _ (by assumption) 32 (by assumption) _ hu_hash (by rfl) hi_hash) ?_) | (refine wpList_val (by rfl) (run_bytes_eql 23 5 _ _ _ (by with_reducible rfl) 32 hu_hash Tryd.underlying5 hs_u8 hm_hash _ _ (by rfl) (by rfl) (by assumption) (by assumption)) ?_))
    with_reducible refine (H4.out _).mono ?_
    rintro e w3 ⟨u, rfl, ho, hb3⟩
    go_wp2_with fail
    go_ret
    exact told_of2 HS1.out HM1.out ho hb3 (congrArg some (if_pos h1))
  · have e1 : (io == zeros) = false := by rw [beq_eq_false_iff_ne]; exact h1
    by_cases h2 : 0 ≤ svr
    · have e2 : decide ((0 : Int) ≤ svr) = true := by simpa using h2
      go_wp2_with (first | (refine wpList_val (by rfl) (run_load_seg 23 _ (by with_reducible rfl) _ _ (by rfl) _ (by assumption) 32 (by assumption) _ hu_hash (by rfl) hi_hash) ?_) | (refine wpList_val (by rfl) (run_bytes_eql 23 5 _ _ _ (by with_reducible rfl) 32 hu_hash Tryd.underlying5 hs_u8 hm_hash _ _ (by rfl) (by rfl) (by assumption) (by assumption)) ?_))
      refine wp_still_tail 10 (by kernel_rfl) (by kernel_rfl) fun w2 hw2 => ?_
      simp only [List.take_succ_cons, List.take_zero, List.drop_succ_cons, List.drop_zero]
      have g1 : w2.cell? ⟨gi, 1, none⟩ = some (.int .i64 ir) := by rw [hw2]; exact d1
      have g2 : w2.rangeAt gs 35 (bts sv) := by rw [hw2]; exact (World.rangeAt_drew _ _ _ _).2 c35
      have g3 : w2.cell? ⟨gs, 67, none⟩ = some (.int .i64 svr) := by rw [hw2]; exact c67
      have HS2 : Hid (Bk w2 gs 25 (⟨ir, 1, sl, slr, sv, svr, sb, swa, swd⟩ : St).cells.toArray) := Lib.hid (by rw [hw2]; exact HS1.out.drew)
      have HM2 : Hid (Moves (fun k _ => k = gs) w w2) := Lib.hid (by rw [hw2]; exact HM1.out.trans_ (Moves.drew _ _) (fun _ _ _ h => h))
      clear hw2 d0 d1 d2 d34 d35 d36 c35 c67 hN1
      repeat (first | (refine wpStill_val (by rfl) (run_load_seg 23 _ (by with_reducible rfl) _ _ (by rfl) _ (by assumption) 32 (by assumption) _ hu_hash (by rfl) hi_hash) ?_) | still_step)
      refine wpStill_nil ?_
      go_wp2_with fail
      with_reducible refine (HV.out _).mono ?_
      rintro e w3 ⟨u, rfl, ho, hb3⟩
      go_wp2_with fail
      go_ret
      exact told_of2 HS2.out HM2.out ho hb3 (congrArg some ((if_neg h1).trans (if_pos h2)))
    · have e2 : decide ((0 : Int) ≤ svr) = false := by simpa using h2
      go_wp2_with (first | (refine wpList_val (by rfl) (run_load_seg 23 _ (by with_reducible rfl) _ _ (by rfl) _ (by assumption) 32 (by assumption) _ hu_hash (by rfl) hi_hash) ?_) | (refine wpList_val (by rfl) (run_bytes_eql 23 5 _ _ _ (by with_reducible rfl) 32 hu_hash Tryd.underlying5 hs_u8 hm_hash _ _ (by rfl) (by rfl) (by assumption) (by assumption)) ?_))
      with_reducible refine (HO.out _).mono ?_
      rintro e w3 ⟨u, rfl, ho, hb3⟩
      go_wp2_with fail
      go_ret
      exact told_of2 HS1.out HM1.out ho hb3 (congrArg some ((if_neg h1).trans (if_neg (Int.not_le.2 h2))))

end Go.Proofs.YtlhnhdkbfkbafaaDoor

/- What this text proves: the contract of the reference's Scan. The conditions are how the bytes lie in memory. -/
import Derived.Test.YtpmmojjffjpmbaaDoorWalRefF
import Derived.Test.YtpmmojjffjpmbaaDoorWalLog
import Derived.Deep.RegionLaw
import Derived.Deep.CutBlock
import Derived.Deep.DeepCutAuto
namespace Go.Proofs.YtpmmojjffjpmbaaDoor
open Go.RowKit
set_option linter.unusedVariables false
set_option linter.unusedSimpArgs false

structure RScan (w : World) (b : List UInt8) (v : Value) (a : Nat) (wr : World) : Prop where
  ex : ∃ l : List Part, Recs wr w.heap.size v l ∧ l.map dat ++ scanW ckW (b.drop a) = scanW ckW b ∧ tot l = a
  le : a ≤ b.length
  bel : Below w.heap.size w wr
theorem RScan.done {w wr : World} {b : List UInt8} {v : Value} {a : Nat} (h : RScan w b v a wr) (hn : scan1 ckW (b.drop a) = none) : ∃ l : List Part, Recs wr w.heap.size v l ∧ l.map dat = scanW ckW b ∧ a = (framesF ckW (scanW ckW b)).length := by
  obtain ⟨l, h1, h2, h3⟩ := h.ex
  rw [scanW_none hn, List.append_nil] at h2
  exact ⟨l, h1, h2, by rw [← h2, ← h3]; rfl⟩

theorem RScan.below {w wr wx : World} {b : List UInt8} {v : Value} {a : Nat} (h : RScan w b v a wr) (hb : Below wr.heap.size wr wx) : RScan w b v a wx := by
  obtain ⟨l, h1, h2, h3⟩ := h.ex
  exact ⟨⟨l, h1.below hb (Nat.le_refl _), h2, h3⟩, h.le, h.bel.trans (hb.mono h.bel.size)⟩
theorem RScan.step {w wc w12 w13 : World} {v v13 : Value} {l : List Part} {r : List UInt8} {N c12 : Nat} {A12 : Option Addr} (hl : Recs wc w.heap.size v l) (hb : Below w.heap.size w wc) (hb12 : Below wc.heap.size wc w12) (ho12 : w12.ownsRow wc.heap.size 5 1 (.slice A12 N c12) N (bts r)) (hrl : r.length = N)
    (hg : (w12.alloc (.cells #[.slice A12 N c12] 22)).grownBy w13 v.ownBlock) (ho13 : w13.ownsRow w.heap.size 22 1 v13 (l.length + 1) (l.map slv ++ [.slice A12 N c12])) :
    Recs w13 w.heap.size v13 (l ++ [(A12, c12, r)]) ∧ Below w.heap.size w w13 := by
  have hl12 := hl.below hb12 (Nat.le_refl _)
  have hm1 : Moves (fun k _ => some k = v.ownBlock) w12 w13 := (Moves.alloc _ w12 _).trans_ (Moves.grown hg (fun _ _ h => h)) (fun _ _ _ h => h)
  have hu8 : ∀ k cur, w12.heap[k]? = some (.cells cur 5 (0, 0)) → ¬ (some k = v.ownBlock) := by
    rintro k cur hk h
    obtain ⟨_, _, c, hc⟩ := own_cells hl12.own h.symm
    exact Bk.ne_ (g := k) hc hk (by decide) rfl
  refine ⟨⟨?_, fun p hp => ?_⟩, ?_⟩
  · rw [List.length_append, List.map_append]
    simpa [slv, hrl] using ho13
  · rcases List.mem_append.1 hp with hp | hp
    · exact (hl12.rd p hp).moves hm1 (fun k cur _ hk => hu8 k cur hk)
    · rw [List.mem_singleton] at hp
      subst hp
      have := (Rd.of_own ho12).moves hm1 (fun k cur _ hk => hu8 k cur hk)
      simpa [slv, hrl] using this
  · have hb2 := hb.trans (hb12.mono hb.size)
    refine hb2.trans (hm1.to_below hb2.size ?_)
    intro k o h
    exact (own_cells hl12.own h.symm).1

set_option maxRecDepth 100000 in
set_option maxHeartbeats 8000000 in
theorem rscan_any (A : Option Addr) (b : List UInt8) (L c : Nat) (hL : b.length = L) (w : World) (hbc : L ≤ c) (hc : c ≤ maxLen) (hb2 : L ≤ 2000000) (hA : Sl w w.heap.size 1 A L (bts b)) :
    Calls Tryd.prog 10 #[.slice A L c] w fun e w' => ∃ v l, e = .returned (.tuple #[v, .int .i64 ((framesF ckW (scanW ckW b)).length : Nat)]) ∧ Recs w' w.heap.size v l ∧ l.map dat = scanW ckW b ∧ Below w.heap.size w w' := by
  have HA := Lib.hid hA
  have HL := Lib.hid hL
  unfold maxLen at hc
  clear hA hL
  go_enter Tryd.func10, Tryd.ntmps10
  go_wp2_with fail
  go_loopw [4, 5] (fun v i wr => ∃ a : Nat, i = .int .i64 a ∧ RScan w b v a wr) (fun _ i _ => L - (intOf i).toNat)
  case atStart => exact ⟨0, rfl, ⟨[], ⟨World.ownsRow_nil _ _ _ _, fun p hp => nomatch hp⟩, rfl, rfl⟩, Nat.zero_le _, Below.refl _ _⟩
  case round =>
    obtain ⟨a, rfl, hrs⟩ := hrel
    have hal := hrs.le
    rw [HL.out] at hal
    have HRS := Lib.hid hrs
    clear hrs
    by_cases h6 : a + 6 ≤ L
    · have e6 : decide ((a : Int) + 6 ≤ (L : Int)) = true := by simp; omega
      obtain ⟨x0, hx0⟩ : ∃ x, b[a]? = some x := ⟨_, List.getElem?_eq_getElem (by rw [HL.out]; omega)⟩
      obtain ⟨x1, hx1⟩ : ∃ x, b[a + 1]? = some x := ⟨_, List.getElem?_eq_getElem (by rw [HL.out]; omega)⟩
      obtain ⟨ab, ao, rfl, hab, hcc⟩ := HA.out.at_ (by omega)
      have hd0 : wr.cell? ⟨ab, ao + a, none⟩ = some (.int .u8 (x0.toNat : Int)) := (HRS.out.bel.cell (p := ⟨ab, ao + a, none⟩) hab).trans (hcc a _ (bts_at hx0))
      have hd1 : wr.cell? ⟨ab, ao + (a + 1), none⟩ = some (.int .u8 (x1.toNat : Int)) := (HRS.out.bel.cell (p := ⟨ab, ao + (a + 1), none⟩) hab).trans (hcc (a + 1) _ (bts_at hx1))
      have k0 : (a : Int) < (L : Int) := by omega
      have k1 : (a : Int) + 1 < (L : Int) := by omega
      have s1 : IntKind.i64.wrap ((a : Int) + 1) = (a : Int) + 1 := IntWalk.i64_in _ (by omega)
      have s2 : ((a : Int) + 1).toNat = a + 1 := by omega
      have HX := Lib.hid (And.intro hx0 hx1)
      have u0 : x0.toNat < 256 := UInt8.toNat_lt x0
      have u1 : x1.toNat < 256 := UInt8.toNat_lt x1
      clear hx0 hx1 hcc
      go_wp2_with fail
      go_quiet (fail)
      obtain ⟨N, hNe⟩ : ∃ N, x0.toNat * 256 + x1.toNat = N := ⟨_, rfl⟩
      rw [show (x0.toNat : Int) * 256 + (x1.toNat : Int) = (N : Int) from by omega]
      have hNb : N < 65536 := by omega
      have HN : Hid (lenW (b.drop a) = N) := Lib.hid (by rw [← hNe]; unfold lenW; rw [List.getD_eq_getElem?_getD, List.getD_eq_getElem?_getD, List.getElem?_drop, List.getElem?_drop, Nat.add_zero, HX.out.1, HX.out.2]; rfl)
      have HDL : Hid ((b.drop a).length = L - a) := Lib.hid (by rw [List.length_drop, HL.out])
      have HRS2 : Hid (RScan w b u4 a (wr.drewN nq)) := Lib.hid ⟨by obtain ⟨l, h1, h2, h3⟩ := HRS.out.ex; exact ⟨l, ⟨h1.own, h1.rd⟩, h2, h3⟩, HRS.out.le, below_drewN HRS.out.bel nq⟩
      obtain ⟨wq, hwq⟩ : ∃ x, wr.drewN nq = x := ⟨_, rfl⟩
      rw [hwq] at HRS2 ⊢
      clear hNe hwq HRS hd0 hd1 u0 u1 s1 s2
      have HE := Lib.hid (fun h => HRS2.out.done h)
      by_cases n0 : N < 1
      · have e0 : decide ((N : Int) < 1) = true := by simp; omega
        go_wp2_with fail
        go_ret2
        obtain ⟨l, h1, h2, h3⟩ := HE.out (by rw [scan1, HN.out, if_neg (by omega)])
        exact ⟨_, l, by rw [← h3]; rfl, h1, h2, HRS2.out.bel⟩
      have e0 : decide ((N : Int) < 1) = false := by simp; omega
      by_cases n1 : 4096 < N
      · have e1 : decide ((N : Int) > 4096) = true := by simp; omega
        go_wp2_with fail
        go_ret2
        obtain ⟨l, h1, h2, h3⟩ := HE.out (by rw [scan1, HN.out, if_neg (by omega)])
        exact ⟨_, l, by rw [← h3]; rfl, h1, h2, HRS2.out.bel⟩
      have e1 : decide (4096 < (N : Int)) = false := by simp; omega
      by_cases n2 : L < a + 6 + N
      · have e2 : decide ((L : Int) - (a : Int) - 6 < (N : Int)) = true := by simp; omega
        go_wp2_with fail
        go_ret2
        obtain ⟨l, h1, h2, h3⟩ := HE.out (by rw [scan1, HN.out, HDL.out, if_neg (by omega)])
        exact ⟨_, l, by rw [← h3]; rfl, h1, h2, HRS2.out.bel⟩
      have e2 : decide ((L : Int) - (a : Int) - 6 < (N : Int)) = false := by simp; omega
      have j1 : (a : Int) + 6 + (N : Int) ≤ (c : Int) := by omega
      have j2 : (a : Int) + 6 ≤ (a : Int) + 6 + (N : Int) := by omega
      go_upto_region 7 with fail
      rw [show a + 6 + N - (a + 6) = N from by omega]
      have hrl : (recW (b.drop a)).length = N := by unfold recW; rw [HN.out, List.length_take, List.length_drop, HDL.out]; omega
      have HRC := Lib.hid (show ((b.drop a).drop 6).take N = recW (b.drop a) from by unfold recW; rw [HN.out])
      obtain ⟨r, hre⟩ : ∃ r, recW (b.drop a) = r := ⟨_, rfl⟩
      have HRE := Lib.hid hre
      rw [hre] at hrl HRC
      have hrs : Sl w w.heap.size 1 (some ⟨ab, ao + (a + 6), none⟩) N (bts r) := by
        have := HA.out.sub (a + 6) N (by omega)
        rw [bts_drop, bts_take, ← List.drop_drop, HRC.out] at this
        exact this
      have hys : Sl w w.heap.size 1 (some ⟨ab, ao + a, none⟩) (6 + N) (bts ((b.drop a).take (6 + N))) := by
        have := HA.out.sub a (6 + N) (by omega)
        rw [bts_drop, bts_take] at this
        exact this
      have hbw := HRS2.out.bel
      have HF := Lib.hid (fun (W : World) (hW : Below wq.heap.size wq W) => rframe_any (some ⟨ab, ao + (a + 6), none⟩) r (c - (a + 6)) W (by omega) ⟨by simp only; omega, by simp only; unfold maxLen; omega, by simp only; rw [hrl]; exact (hrs.below (hbw.trans (hW.mono hbw.size))).more (Nat.le_trans hbw.size hW.size)⟩)
      rw [hrl] at HF
      obtain ⟨ys, hyse⟩ : ∃ ys, (b.drop a).take (6 + N) = ys := ⟨_, rfl⟩
      have HYS := Lib.hid hyse
      have hyl : ys.length = 6 + N := by rw [← hyse, List.length_take, HDL.out]; omega
      rw [hyse] at hys
      have hcv : ∀ W, Below wq.heap.size wq W → (convert 22 9 (.slice (some ⟨ab, ao + a, none⟩) (a + 6 + N - a) (c - a))).run Tryd.prog W = .ok (.string (strOf ys)) W := fun W hW => by
        have := run_conv (P := Tryd.prog) (w := W) (B := w.heap.size) (dst := 9) (xs := ys) (A := some ⟨ab, ao + a, none⟩) Tryd.underlying22 Tryd.underlying5 Tryd.underlying9 (c - a) (by rw [hyl]; exact hys.below (hbw.trans (hW.mono hbw.size)))
        rw [hyl] at this
        rw [show a + 6 + N - a = 6 + N from by omega]
        exact this
      have hcf : ∀ W Af cf, Sl W W.heap.size 1 Af (6 + N) (bts (frameF ckW r)) → (convert 22 9 (.slice Af (6 + N) cf)).run Tryd.prog W = .ok (.string (strOf (frameF ckW r))) W := fun W Af cf h => by
        have := run_conv (P := Tryd.prog) (w := W) (B := W.heap.size) (dst := 9) (xs := frameF ckW r) (A := Af) Tryd.underlying22 Tryd.underlying5 Tryd.underlying9 cf (by rw [frameF_len ckW_len, hrl]; exact h)
        rw [frameF_len ckW_len, hrl] at this
        exact this
      have HS := Lib.hid (str_beq (frameF ckW r) ys)
      obtain ⟨X, hX⟩ : ∃ X, strOf (frameF ckW r) = X := ⟨_, rfl⟩
      obtain ⟨Y, hY⟩ : ∃ Y, strOf ys = Y := ⟨_, rfl⟩
      rw [hX, hY] at HS
      rw [hX] at hcf
      rw [hY] at hcv
      have HCV := Lib.hid hcv
      have HCF := Lib.hid hcf
      have hd1 : Below wq.heap.size wq wq.drew := (Below.refl _ _).drew
      have cv0 := hcv _ hd1
      obtain ⟨bv, hbv⟩ : ∃ bv, (X.toList == Y.toList) = bv := ⟨_, rfl⟩
      have hbv2 : (X.toList != Y.toList) = !bv := by rw [bne, hbv]
      have HBV : Hid (decide (frameF ckW r = ys) = bv) := Lib.hid (by rw [← HS.out]; exact hbv)
      have HRSL := Lib.hid hrs
      have s1 : IntKind.i64.wrap ((a : Int) + 6) = (a : Int) + 6 := IntWalk.i64_in _ (by omega)
      have s2 : IntKind.i64.wrap ((a : Int) + 6 + (N : Int)) = (a : Int) + 6 + (N : Int) := IntWalk.i64_in _ (by omega)
      have k5 : (0 : Int) ≤ (a : Int) + 6 + (N : Int) := by omega
      have k8 : ¬ c = a := by omega
      have k7 : a ≤ a + 6 + N := by omega
      have k6 : ((a : Int) + 6 + (N : Int)).toNat = a + 6 + N := by omega
      clear hre hrs hys hyse hcv hcf hX hY hbw HS hyl
      go_cut [60] (fun s60 wx => s60 = .bool (!bv) ∧ Below wq.heap.size wq wx)
      case first =>
        go_region_law (first
          | (go_simp; go_at_call 26; (with_reducible refine (HF.out _ hd1).mono ?_); rintro e w1 ⟨v1, rfl, ho1, hb1⟩; have hb1' := hd1.trans (hb1.mono hd1.size); obtain ⟨Af, cf, rfl, hcf1, hcf2, hsf⟩ := own_sl ho1; have cv1 := HCV.out w1 hb1'; have cv2 := HCF.out w1 Af cf hsf))
        all_goals
          go_wp2_with fail
          go_meet
          case rel => exact ⟨rfl, hb1'⟩
      case rest =>
        obtain ⟨rfl, hbc⟩ := hcut
        have HRSC := Lib.hid (HRS2.out.below hbc)
        have HSR := Lib.hid ((HRSL.out.below (HRSC.out.bel)).more HRSC.out.bel.size)
        clear s1 s2 k5 k6 k7 k8 cv0 HCV HCF HF hbv hbv2 hbc HRS2 HE hd1 HRSL
        cases bv with
        | false =>
          go_wp2_with fail
          go_ret2
          obtain ⟨l, h1, h2, h3⟩ := HRSC.out.done (by
            unfold scan1
            rw [HN.out, HRE.out, if_neg (fun h => absurd h.2.2.2.2 (by rw [Nat.add_comm N 6, HYS.out]; exact of_decide_eq_false HBV.out))])
          exact ⟨_, l, by rw [← h3]; rfl, h1, h2, HRSC.out.bel⟩
        | true =>
          have hsome : scan1 ckW (b.drop a) = some r := by
            unfold scan1
            rw [HN.out, HRE.out, if_pos]
            exact ⟨by rw [HDL.out]; omega, by omega, by omega, by rw [HDL.out]; omega, by rw [Nat.add_comm N 6, HYS.out]; exact of_decide_eq_true HBV.out⟩
          have hnx : scanW ckW (b.drop a) = r :: scanW ckW (b.drop (a + (6 + N))) := by rw [scanW_some hsome, hrl, List.drop_drop]
          obtain ⟨l, hl1, hl2, hl3⟩ := HRSC.out.ex
          have HNX : Hid ((l ++ [(none, 0, r)]).map dat ++ scanW ckW (b.drop (a + (6 + N))) = scanW ckW b) := Lib.hid (by rw [List.map_append, List.append_assoc, ← hl2, hnx]; rfl)
          have hll := tot_len l
          rw [hl3] at hll
          have HL1 := Lib.hid hl1
          have HL3 := Lib.hid hl3
          obtain ⟨i0, hi, hz0, hz1, hz2⟩ := info_parts u8_info
          obtain ⟨i1, hi1, hy0, hy1, hy2⟩ := info_parts info_bytes
          have O10 := Lib.hid (World.ownsRow_made (base := wc.heap.size) (e := 5) (size := 1) wc #[] 0 (Nat.le_refl _) (by unfold maxLen; omega) (by simp))
          have L10 : Hid (Below wc.heap.size wc (wc.alloc (.cells #[] 5))) := Lib.hid (by (first | assumption | (repeat (first | exact Below.refl _ _ | assumption | apply Below.drew | apply below_drewN | (refine Below.setCell ?_ (by (try simp) <;> omega) _) | (refine Below.alloc ?_ (by (try simp) <;> omega) _)))))
          clear hsome hnx hl1 hl2 hl3
          go_upto_region 9 with (first
            | (at_builtin; refine wpList_append_sl (wc.alloc (.cells #[] 5)) (by rfl) _ _ 22 (by rfl) wc.heap.size 5 i0 _ 1 1 Tryd.underlying22 hi hz0 hz1 hz2 rfl (by omega) (.slice (some ⟨wc.heap.size, 0, none⟩) 0 0) 0 [] (by rfl) O10.out (some ⟨ab, ao + (a + 6), none⟩) N (c - (a + 6)) (bts r) (by rfl) ((HSR.out.below L10.out).more L10.out.size) bts_one (by unfold maxLen; omega) (by omega) (by simp) ?_; intro v12 w12 ho_ hg_ hv_; have P12' := ho_; have L12 : Hid (Below wc.heap.size wc w12) := Lib.hid (L10.out.grown hg_ (by simp) (fun k hk => (own_cells O10.out hk).1)); clear ho_ hg_ hv_; rw [Nat.zero_add, List.nil_append] at P12'; obtain ⟨A12, c12, rfl, hc121, hc122, _⟩ := own_sl P12'; have P12 := Lib.hid P12'; clear P12')
            | (at_builtin; refine wpList_append_sl (w12.alloc (.cells #[.slice A12 N c12] 22)) (by rfl) _ _ 24 (by rfl) w.heap.size 22 i1 _ 1 24 Tryd.underlying24 hi1 hy0 hy1 hy2 rfl (by omega) _ l.length (l.map slv) (by rfl) ((own_bl HL1.out.own L12.out).alloc _) (some ⟨w12.heap.size, 0, none⟩) 1 1 [.slice A12 N c12] (by rfl) (built_sl rfl) (by simp [Value.oneCell']) (by unfold maxLen; omega) (by omega) (by have := L12.out.size; have := HRSC.out.bel.size; simp; omega) ?_; intro v13 w13 ho_ hg_ hv_; have HST := Lib.hid (RScan.step HL1.out HRSC.out.bel L12.out P12.out hrl hg_ ho_); clear ho_ hg_ hv_))
          go_wp2_with fail
          go_roundw
          case rel => exact ⟨a + (6 + N), by go_num, ⟨l ++ [(A12, c12, r)], HST.out.1, by have := HNX.out; simpa [dat] using this, by rw [tot_snoc, HL3.out, hrl]⟩, by rw [HL.out]; omega, HST.out.2⟩
          case measure => simp [intOf]; omega
    · have h7 : L < a + 6 := by omega
      have e6 : decide ((a : Int) + 6 ≤ (L : Int)) = false := by simp; omega
      clear h6
      go_wp2_with fail
      go_ret2
      obtain ⟨l, h1, h2, h3⟩ := HRS.out.done (scan1_none_short (by rw [List.length_drop, HL.out]; omega))
      exact ⟨_, l, by rw [← h3]; rfl, h1, h2, HRS.out.bel⟩
end Go.Proofs.YtpmmojjffjpmbaaDoor

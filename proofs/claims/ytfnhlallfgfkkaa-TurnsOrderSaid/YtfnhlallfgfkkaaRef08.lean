/- What this text proves: the contracts of the reference's Order, Proposer and Turn of layer 8, for any list of validators. No condition but that the list is no longer than a slice can be. -/
import Derived.Test.YtfnhlallfgfkkaaRef07
import Derived.Test.YtfnhlallfgfkkaaProposer
import Derived.Test.YtfnhlallfgfkkaaKeys08
import Derived.Test.YtfnhlallfgfkkaaTurnsAlive
import Derived.StillTailTactics
import Derived.Deep.DeepMust
import Derived.Maps.AppendAt
namespace Go.Proofs.Ytfnhlallfgfkkaa
open Go.RowKit
set_option linter.unusedVariables false
set_option linter.unusedSimpArgs false

set_option maxHeartbeats 8000000 in
theorem refOrder_some (A : Option Addr) (l : List (Int × Int)) (c N : Nat) (w : World) (hr : rightV l = true) (hN : N ≤ 4096) (hA : Sl w w.heap.size 2 A l.length (vCells l)) :
    Calls Try.prog 15 #[.slice A l.length c, .int .i64 N] w fun e w' =>
      ∃ v, e = .returned (.tuple #[v, .int .i64 0]) ∧ w'.ownsRow w.heap.size 30 1 v N (u64s (keys l N)) ∧ Below w.heap.size w w' := by
  obtain ⟨r2, r3, r4, r5⟩ := rightV_sum hr
  have hmk := make_ints l.length r5
  have hTb := sumV_right l 0 (by omega) (by omega) r2
  have HC := Lib.hid (refTotal_any A l c w (by unfold maxLen; omega) hA)
  obtain ⟨T, hTe⟩ : ∃ T, (sumV 0 l).1 = T := ⟨_, rfl⟩
  rw [hTe] at hTb
  rw [show totalV l = (T, 0) from by rw [totalV, if_pos hr, hTe]] at HC
  have HTe := Lib.hid hTe
  obtain ⟨hT0, hT1, hpw⟩ := hTb
  have HPW := Lib.hid hpw
  have HA := Lib.hid hA
  have HR := Lib.hid hr
  clear hTe hpw hr hA r2 r3
  obtain ⟨i0, hi, hz0, hz1, hz2⟩ := info_parts info_u64
  have e1 : decide ((N : Int) < 0) = false := by simp
  have e2 : ¬ (4096 : Int) < (N : Int) := by omega
  go_enter Try.func15, Try.ntmps15
  go_wp2_with fail
  refine HC.out.mono ?_; rintro e w1 ⟨rfl, hb1⟩
  go_wp2_with fail
  have hPB := Bk.new w1 3 (ints (List.replicate l.length 0))
  have hb2 := hb1.alloc hb1.size (.cells (ints (List.replicate l.length 0)) 3)
  have hs1 := hb1.size
  obtain ⟨PB, hPBe⟩ : ∃ PB, w1.heap.size = PB := ⟨_, rfl⟩
  have hPBl : w.heap.size ≤ PB := by omega
  rw [hPBe] at hPB ⊢
  obtain ⟨w2, hw2⟩ : ∃ w2, w1.alloc (.cells (ints (List.replicate l.length 0)) 3) = w2 := ⟨_, rfl⟩
  rw [hw2] at hPB hb2 ⊢
  clear hmk hb1 hw2 hPBe hs1 e1 e2
  go_loopw [9, 10] (fun out t wr => ∃ k : Nat, k ≤ N ∧ t = .int .i64 k ∧ Bk wr PB 3 (ints (prioAt l k)) ∧ wr.ownsRow w.heap.size 30 1 out k (u64s (keys l k)) ∧ Below w.heap.size w wr) (fun _ t _ => N - (intOf t).toNat)
  case atStart => exact ⟨0, by omega, rfl, hPB, World.ownsRow_nil _ _ _ _, hb2⟩
  case round =>
    obtain ⟨k, hkN, rfl, hPk, hown, hbel⟩ := hrel
    obtain ⟨wo, rfl⟩ : ∃ wo : World, wo = wr := ⟨_, rfl⟩
    clear hPB hb2
    by_cases hkl : k < N
    · go_wp2_with fail
      have hpl := prioAt_len l k
      have hql := qAt_len l k
      have hpb := prioAt_bd HR.out k
      obtain ⟨p, hpe⟩ : ∃ p, prioAt l k = p := ⟨_, rfl⟩
      obtain ⟨q, hqe⟩ : ∃ q, qAt l k = q := ⟨_, rfl⟩
      have hqadd : q = addW p l := by rw [← hqe, ← hpe]; rfl
      rw [hpe] at hpl hpb hPk
      rw [hqe] at hql
      have HQA := Lib.hid hqadd
      have HPE := Lib.hid hpe
      have HQE := Lib.hid hqe
      have HPB := Lib.hid hpb
      have HPL := Lib.hid hpl
      have HQL := Lib.hid hql
      clear hqadd hpe hqe hpb hpl hql
      go_loopw [11, 12] (fun who i wr => ∃ j : Nat, j ≤ l.length ∧ i = .int .i64 j ∧ who = .int .i64 (argK q j) ∧ Bk wr PB 3 (ints (mid q p j)) ∧ wr.ownsRow w.heap.size 30 1 u9 k (u64s (keys l k)) ∧ Below w.heap.size w wr) (fun _ i _ => l.length - (intOf i).toNat)
      case atStart => exact ⟨0, by omega, rfl, rfl, by rw [mid_zero]; exact hPk, hown, hbel⟩
      case round =>
        clear hPk hown hbel
        obtain ⟨j, hj, rfl, rfl, hPk, hown, hbel⟩ := hrel
        have hz := hbel.size
        have hPl := hPk.lt
        by_cases hjl : j < l.length
        · obtain ⟨b, off, ke, pe, rfl, hb, hck, hcp, hlk⟩ := (HA.out.below hbel).val hjl
          obtain ⟨pj, hpj⟩ := some_of (show j < p.length by rw [HPL.out]; exact hjl)
          have hqj : q[j]? = some (pj + pe) := by rw [HQA.out]; exact addW_get hpj hlk
          have hbd := HPB.out pj (List.mem_of_getElem? hpj)
          have hpe1 := HPW.out _ (List.mem_of_getElem? hlk)
          have hw1 : argK q j ≤ j := argK_le q j
          have hcj : wr.cell? ⟨PB, j, none⟩ = some (.int .i64 pj) := by rw [hPk.cell, ints_get, mid_at HQL.out HPL.out hjl, hpj]; rfl
          have hfj : wr.frozen? ⟨PB, j, none⟩ = false := hPk.frozen j
          have e1 : IntKind.i64.wrap (pj + pe) = pj + pe := IntWalk.i64_in _ (by simp at hpe1; omega)
          have hP9 : Bk (wr.setCell ⟨PB, j, none⟩ (.int .i64 (pj + pe))) PB 3 (ints (mid q p (j + 1))) := by
            rw [← mid_set HQL.out HPL.out hjl hqj]
            have := hPk.set_ j (.int .i64 (pj + pe))
            rw [show (ints (mid q p j)).setIfInBounds j (.int .i64 (pj + pe)) = ints ((mid q p j).set j (pj + pe)) from by simp [ints, List.map_set]] at this
            exact this
          have ho9 := own_far hown (p := ⟨PB, j, none⟩) (own_ne hown hPk (by decide)) (.int .i64 (pj + pe))
          have hb9 := hbel.setCell (p := ⟨PB, j, none⟩) hPBl (.int .i64 (pj + pe))
          obtain ⟨qw, hqw⟩ := some_of (show argK q j < q.length by rw [HQL.out]; omega)
          have hdq : argK q (j + 1) = if qw < pj + pe then j else argK q j := by rw [argK, getD_of hqj, getD_of hqw]
          have HDQ := Lib.hid hdq
          have HG := Lib.hid (And.intro hP9 (And.intro ho9 (And.intro hb9 (And.intro hqj (And.intro hqw (And.intro hbd hpe1))))))
          clear hpj hqj hlk hbd hpe1 hdq hqw hP9 ho9 hb9 hPk hown
          go_wp2_with fail
          go_still_tail 13, (by kernel_rfl)
          change wpList _ _ _ _ _ wr.drew
          go_wp2_with fail
          obtain ⟨hP9, ho9, hb9, hqj, hqw, hbd, hpe1⟩ := HG.out
          obtain ⟨w9, hw9⟩ : ∃ w9, wr.setCell ⟨PB, j, none⟩ (.int .i64 (pj + pe)) = w9 := ⟨_, rfl⟩
          rw [hw9] at hP9 ho9 hb9 ⊢
          have hP10 := hP9.drew
          have ho10 : w9.drew.ownsRow w.heap.size 30 1 u9 k (u64s (keys l k)) := ho9
          have hb10 := hb9.drew
          obtain ⟨w10, hw10⟩ : ∃ w10, w9.drew = w10 := ⟨_, rfl⟩
          rw [hw10] at hP10 ho10 hb10 ⊢
          have hc1 : w10.cell? ⟨PB, j, none⟩ = some (.int .i64 (pj + pe)) := by rw [hP10.cell, ints_get, mid_lt HQL.out (by omega) (by omega), hqj]; rfl
          have hc2 : w10.cell? ⟨PB, argK q j, none⟩ = some (.int .i64 qw) := by rw [hP10.cell, ints_get, mid_lt HQL.out (by omega) (by omega), hqw]; rfl
          have hwl : argK q j < l.length := by omega
          obtain ⟨wh, hwhe⟩ : ∃ wh, argK q j = wh := ⟨_, rfl⟩
          rw [hwhe] at hc2 hwl hw1 HDQ ⊢
          clear hw9 hw10 hP9 ho9 hb9 hqj hqw hbd hpe1 HG hwhe hck hcp hcj hfj e1 hbel hz hPl
          go_quiet (fail)
          have ho11 : (w10.drewN nq).ownsRow w.heap.size 30 1 u9 k (u64s (keys l k)) := ho10
          by_cases hq : qw < pj + pe
          · go_wp2_with fail
            go_roundw
            case rel => exact ⟨j + 1, by omega, by go_num, by rw [HDQ.out, if_pos hq], hP10.drewN nq, ho11, below_drewN hb10 nq⟩
            case measure => simp [intOf]; omega
          · go_wp2_with fail
            go_roundw
            case rel => exact ⟨j + 1, by omega, by go_num, by rw [HDQ.out, if_neg hq], hP10.drewN nq, ho11, below_drewN hb10 nq⟩
            case measure => simp [intOf]; omega
        · obtain rfl : j = l.length := by omega
          rw [mid_full HQL.out HPL.out] at hPk
          have hl0 : 0 < l.length := by omega
          have hwl : argK q l.length < l.length := argK_lt q _ hl0 _ (Nat.le_refl _)
          obtain ⟨qw, hqw⟩ := some_of (show argK q l.length < q.length by rw [HQL.out]; exact hwl)
          have hcw : wr.cell? ⟨PB, argK q l.length, none⟩ = some (.int .i64 qw) := by rw [hPk.cell, ints_get, hqw]; rfl
          have hfw : wr.frozen? ⟨PB, argK q l.length, none⟩ = false := hPk.frozen _
          have hnext : prioAt l (k + 1) = q.set (argK q l.length) (qw - T) := by
            rw [prioAt_succ, whoAt, HQE.out, HTe.out, getD_of hqw]
          have hkey : keyAt l k = (l.getD (argK q l.length) (0, 0)).1 := by rw [keyAt, whoAt, HQE.out]
          have hwb : -(k * 1125899906842624) ≤ qw ∧ qw ≤ k * 1125899906842624 + 1125899906842624 := by
            obtain ⟨pw, hpw⟩ := some_of (show argK q l.length < p.length by rw [HPL.out]; exact hwl)
            obtain ⟨vw, hvw⟩ := some_of hwl
            have h1 := addW_get hpw hvw
            rw [← HQA.out, hqw] at h1
            have h2 := HPB.out pw (List.mem_of_getElem? hpw)
            have h3 := HPW.out _ (List.mem_of_getElem? hvw)
            injection h1 with h1
            omega
          obtain ⟨wh, hwhe⟩ : ∃ wh, argK q l.length = wh := ⟨_, rfl⟩
          rw [hwhe] at hwl hqw hcw hfw hnext hkey ⊢
          obtain ⟨hwb1, hwb2⟩ := hwb
          have e1 : IntKind.i64.wrap (qw - T) = qw - T := IntWalk.i64_in _ (by omega)
          have hP9 : Bk (wr.setCell ⟨PB, wh, none⟩ (.int .i64 (qw - T))) PB 3 (ints (prioAt l (k + 1))) := by
            rw [hnext]
            have := hPk.set_ wh (.int .i64 (qw - T))
            rw [show (ints q).setIfInBounds wh (.int .i64 (qw - T)) = ints (q.set wh (qw - T)) from by simp [ints, List.map_set]] at this
            exact this
          have ho9 := own_far hown (p := ⟨PB, wh, none⟩) (own_ne hown hPk (by decide)) (.int .i64 (qw - T))
          have hb9 := hbel.setCell (p := ⟨PB, wh, none⟩) hPBl (.int .i64 (qw - T))
          obtain ⟨b, off, ke, pe, rfl, hb, hck, hcp, hlk⟩ := (HA.out.below hb9).val hwl
          have hkey' : keyAt l k = ke := by rw [hkey, getD_of hlk]
          have HG := Lib.hid (And.intro hP9 (And.intro ho9 (And.intro hb9 hkey')))
          have hc1 := cell_one_new (wr.setCell ⟨PB, wh, none⟩ (.int .i64 (qw - T))) (.int .u64 ke) 30
          rw [show (wr.setCell ⟨PB, wh, none⟩ (.int .i64 (qw - T))).heap.size = wr.heap.size from by simp [World.setCell]] at hc1
          have HC1 := Lib.hid hc1
          have hc5 : w.heap.size ≤ ((wr.setCell ⟨PB, wh, none⟩ (.int .i64 (qw - T))).alloc (.cells #[.int .u64 ke] 30)).heap.size := by have := hb9.size; rw [World.size_alloc]; omega
          have HC5 := Lib.hid hc5
          clear hc1 hc5
          clear hnext hkey hqw hwhe hkey' hP9 ho9 hb9 hPk hlk hcp hown HQA HPB HPL HQL
          go_wp2_with (at_builtin; go_must (refine wpList_append_own _ rfl _ _ 27 rfl w.heap.size 30 i0 _ 1 8 Try.underlying27 hi hz0 hz1 hz2 rfl (by decide) u9 k (u64s (keys l k)) rfl (HG.out.2.1.alloc _) ⟨wr.heap.size, 0, none⟩ 1 1 [.int .u64 ke] rfl rfl HC1.out (by simp [Value.oneCell']) (by unfold maxLen; omega) (by omega) HC5.out ?_); intro v' w3 hown' hgrow _)
          obtain ⟨hP9, ho9, hb9, hkey'⟩ := HG.out
          have hP3 := (hP9.alloc (.cells #[.int .u64 ke] 30)).grown hgrow (own_ne ho9 hP9 (by decide))
          have hb3 := ((hb9.alloc hb9.size (.cells #[.int .u64 ke] 30)).grown hgrow (by have := hb9.size; simp at this ⊢; omega) (fun g hg => (own_cells ho9 hg).1))
          have ho3 : w3.ownsRow w.heap.size 30 1 v' (k + 1) (u64s (keys l (k + 1))) := by
            have e : u64s (keys l (k + 1)) = u64s (keys l k) ++ [.int .u64 ke] := by simp [u64s, keys, List.range_succ, hkey']
            rw [e]
            exact hown'
          clear hP9 ho9 hb9 hkey' HG hown' hgrow
          go_wp2_with fail
          go_roundw
          case rel => exact ⟨k + 1, by omega, by go_num, hP3, ho3, hb3⟩
          case measure => simp [intOf]; omega
    · obtain rfl : k = N := by omega
      go_wp2_with fail
      go_ret2
      exact ⟨_, rfl, hown, hbel⟩

set_option maxHeartbeats 4000000 in
theorem refOrder_any (A : Option Addr) (l : List (Int × Int)) (c : Nat) (n : Int) (w : World) (hl : l.length ≤ maxLen) (hA : Sl w w.heap.size 2 A l.length (vCells l)) :
    Calls Try.prog 15 #[.slice A l.length c, .int .i64 n] w fun e w' =>
      ∃ v, e = .returned (.tuple #[v, .int .i64 (orderV l n).2]) ∧ w'.ownsRow w.heap.size 30 1 v (orderV l n).1.length (u64s (orderV l n).1) ∧ Below w.heap.size w w' := by
  by_cases hok : rightV l = true ∧ 0 ≤ n ∧ n ≤ 4096
  · obtain ⟨hr, h1, h2⟩ := hok
    obtain ⟨N, rfl⟩ : ∃ N : Nat, n = N := ⟨n.toNat, by omega⟩
    refine (refOrder_some A l c N w hr (by omega) hA).mono ?_
    rw [orderV_some hr (by omega)]
    simp only [List.length_map, List.length_range]
    exact fun _ _ h => h
  · have HC := Lib.hid (refTotal_any A l c w hl hA)
    have HO := Lib.hid hok
    clear hA hok hl
    cases hr : rightV l with
    | false =>
      have ho : orderV l n = ([], 71) := by rw [orderV, if_pos hr]
      have HOV := Lib.hid ho
      rw [show totalV l = (0, 71) from by rw [totalV, hr]; rfl] at HC
      clear hr ho
      go_enter Try.func15, Try.ntmps15
      go_wp2_with fail
      refine HC.out.mono ?_; rintro e w1 ⟨rfl, hb1⟩
      go_wp2_with fail
      go_ret2
      exact ⟨.slice none 0 0, by rw [HOV.out]; rfl, by rw [HOV.out]; exact World.ownsRow_nil _ _ _ _, hb1⟩
    | true =>
      have hn : n < 0 ∨ 4096 < n := by
        have := HO.out
        rw [hr] at this
        simp at this
        omega
      have ho : orderV l n = ([], 81) := by rw [orderV, if_neg (by simp [hr]), if_pos hn]
      have HOV := Lib.hid ho
      rw [show totalV l = ((totalV l).1, 0) from by rw [totalV, if_pos hr]] at HC
      obtain ⟨T, hT⟩ : ∃ T, (totalV l).1 = T := ⟨_, rfl⟩
      rw [hT] at HC
      clear hr ho hT
      rcases hn with hn | hn
      · go_enter Try.func15, Try.ntmps15
        go_wp2_with fail
        refine HC.out.mono ?_; rintro e w1 ⟨rfl, hb1⟩
        go_wp2_with fail
        go_ret2
        exact ⟨.slice none 0 0, by rw [HOV.out]; rfl, by rw [HOV.out]; exact World.ownsRow_nil _ _ _ _, hb1⟩
      · have hn' : decide (n < 0) = false := by simp; omega
        go_enter Try.func15, Try.ntmps15
        go_wp2_with fail
        refine HC.out.mono ?_; rintro e w1 ⟨rfl, hb1⟩
        go_wp2_with fail
        go_ret2
        exact ⟨.slice none 0 0, by rw [HOV.out]; rfl, by rw [HOV.out]; exact World.ownsRow_nil _ _ _ _, hb1⟩

set_option maxHeartbeats 4000000 in
theorem refProp_any (A : Option Addr) (l : List (Int × Int)) (c : Nat) (t : Int) (w : World) (hl : l.length ≤ maxLen) (hA : Sl w w.heap.size 2 A l.length (vCells l)) :
    Calls Try.prog 16 #[.slice A l.length c, .int .i64 t] w fun e w' =>
      e = .returned (.tuple #[.int .u64 (propV l t).1, .int .i64 (propV l t).2]) ∧ Below w.heap.size w w' := by
  have HC := Lib.hid (refRight_any A l c w hl hA)
  cases hr : rightV l with
  | false =>
    rw [hr] at HC
    have HP := Lib.hid (show propV l t = (0, 71) by rw [propV, if_pos hr])
    clear hr hA
    go_enter Try.func16, Try.ntmps16
    go_wp2_with fail
    refine HC.out.mono ?_; rintro e w1 ⟨rfl, hb1⟩
    go_wp2_with fail
    go_ret2
    exact ⟨by rw [HP.out]; rfl, hb1⟩
  | true =>
    rw [hr] at HC
    by_cases hn : t < 0 ∨ 4096 ≤ t
    · have HP := Lib.hid (show propV l t = (0, 81) by rw [propV, if_neg (by simp [hr]), if_pos hn])
      clear hr hA
      rcases hn with hn | hn
      · go_enter Try.func16, Try.ntmps16
        go_wp2_with fail
        refine HC.out.mono ?_; rintro e w1 ⟨rfl, hb1⟩
        go_wp2_with fail
        go_ret2
        exact ⟨by rw [HP.out]; rfl, hb1⟩
      · have hn' : decide (t < 0) = false := by simp; omega
        go_enter Try.func16, Try.ntmps16
        go_wp2_with fail
        refine HC.out.mono ?_; rintro e w1 ⟨rfl, hb1⟩
        go_wp2_with fail
        go_ret2
        exact ⟨by rw [HP.out]; rfl, hb1⟩
    · obtain ⟨N, rfl⟩ : ∃ N : Nat, t = N := ⟨t.toNat, by omega⟩
      have HP := Lib.hid (propV_some (t := N) hr (by omega))
      have hO : ∀ (w1 : World), Below w.heap.size w w1 → Calls Try.prog 15 #[.slice A l.length c, .int .i64 ((N : Int) + 1)] w1 fun e w' =>
          ∃ v, e = .returned (.tuple #[v, .int .i64 0]) ∧ w'.ownsRow w1.heap.size 30 1 v (N + 1) (u64s (keys l (N + 1))) ∧ Below w1.heap.size w1 w' := by
        intro w1 hb
        have h := refOrder_some A l c (N + 1) w1 hr (by omega) ((hA.below hb).more hb.size)
        rw [show ((N + 1 : Nat) : Int) = (N : Int) + 1 from by omega] at h
        exact h
      have HO := Lib.hid hO
      clear hO
      have hN : N < 4096 := by omega
      have e1 : decide ((N : Int) < 0) = false := by simp
      have e2 : decide ((4096 : Int) ≤ (N : Int)) = false := by simp; omega
      have HN := Lib.hid hN
      have hNb : (N : Int) < 5000 := by omega
      clear hr hA hn hN
      go_enter Try.func16, Try.ntmps16
      go_wp2_with fail
      refine HC.out.mono ?_; rintro e w1 ⟨rfl, hb1⟩
      go_wp2_with fail
      with_reducible refine (HO.out _ hb1).mono ?_
      rintro e w2 ⟨v, rfl, hrow, hb2⟩
      obtain ⟨g, cap, rfl⟩ := ownsRow_succ hrow
      have hc := hrow.cells (g := g) rfl N _ (keys_get (Nat.lt_succ_self N))
      have hc' : w2.cell? ⟨g, N, none⟩ = some (.int .u64 (keyAt l N)) := by
        have e : (⟨g, 0, none⟩ : Addr).add N = ⟨g, N, none⟩ := by unfold Addr.add; split <;> simp_all
        rw [e] at hc
        exact hc
      obtain ⟨K, hK⟩ : ∃ K, keyAt l N = K := ⟨_, rfl⟩
      rw [hK] at hc'
      have HK := Lib.hid hK
      have HRow := Lib.hid hrow
      clear hc hrow hK
      go_wp2_with fail
      go_ret2
      exact ⟨by rw [HP.out, HK.out]; rfl, step_b hb1 hb2⟩

set_option maxHeartbeats 1000000 in
theorem refTurn_any (h r : Int) (w : World) : Calls Try.prog 17 #[.int .i64 h, .int .i64 r] w fun e w' => e = .returned (.int .i64 (turnV h r)) ∧ w = w' := by
  by_cases h1 : h < 1
  · go_enter Try.func17, Try.ntmps17
    go_wp2
    go_ret
    exact ⟨ret_int (by rw [turnV, if_pos (by omega)]), rfl⟩
  · by_cases h2 : 1099511627776 < h
    · go_enter Try.func17, Try.ntmps17
      go_wp2
      go_ret
      exact ⟨ret_int (by rw [turnV, if_pos (by omega)]), rfl⟩
    · by_cases h3 : r < 0
      · go_enter Try.func17, Try.ntmps17
        go_wp2
        go_ret
        exact ⟨ret_int (by rw [turnV, if_pos (by omega)]), rfl⟩
      · by_cases h4 : 1048576 < r
        · go_enter Try.func17, Try.ntmps17
          go_wp2
          go_ret
          exact ⟨ret_int (by rw [turnV, if_pos (by omega)]), rfl⟩
        · go_enter Try.func17, Try.ntmps17
          go_wp2
          go_ret
          exact ⟨ret_int (by rw [turnV, if_neg (by omega)]), rfl⟩
end Go.Proofs.Ytfnhlallfgfkkaa

/- What this text proves: the contract of valset.Update: what it answers is updateV of the two lists, in a row of its own. The condition is that both lists are short (at most 1000). -/
import Derived.Test.YtlocapkofmpebaaVsChange
namespace Go.Proofs.Ytlocapkofmpebaa
open Go.RowKit
set_option linter.unusedVariables false
set_option linter.unusedSimpArgs false

/-- What Update leaves. -/
def UpP (B : Nat) (r : VL × Int) (w : World) (e : Ending) (w' : World) : Prop := ∃ v', e = .returned (.tuple #[v', .int .i64 r.2]) ∧ VOwn w' B v' r.1 ∧ Below B w w'
theorem UpP.of {B : Nat} {r : VL × Int} {w w' : World} {v' : Value} {l : VL} {n : Int} (h : r = (l, n)) (ho : VOwn w' B v' l) (hb : Below B w w') : UpP B r w (.returned (.tuple #[v', .int .i64 n])) w' := by
  subst h
  exact ⟨v', rfl, ho, hb⟩
theorem vown_nil (w : World) (B : Nat) : VOwn w B (.slice none 0 0) [] := by
  refine ⟨by simp [vCells], .inl ⟨rfl, rfl⟩⟩

theorem vown_low {w : World} {B B' : Nat} {v : Value} {l : VL} (h : VOwn w B v l) (hb : B' ≤ B) : VOwn w B' v l := by
  refine ⟨h.1, ?_⟩
  rcases h.2 with h1 | ⟨g, cap, cur, rfl, hbg, rest⟩
  · exact .inl h1
  · exact .inr ⟨g, cap, cur, rfl, Nat.le_trans hb hbg, rest⟩
theorem step_err {l : VL} {k p n : Int} (h : stepV l k p = .error n) : n = 72 ∨ n = 73 := by
  unfold stepV at h
  split at h
  · cases h; exact .inl rfl
  · split at h
    · split at h
      · cases h
      · cases h; exact .inr rfl
    · cases h

theorem sl_len {w : World} {B sz m n : Nat} {A : Option Addr} {cs : List Value} (h : n = m) (hs : Sl w B sz A m cs) : Sl w B sz A n cs := h ▸ hs

/-- How far Update's loop is. -/
structure UpI (w W : World) (B : Nat) (v : Value) (l cs : VL) (j : Nat) (lj : VL) : Prop where
  own : VOwn W B v lj
  up : Up lj
  len : lj.length ≤ 64 + j
  way : updV l cs = updV lj (cs.drop j)
  bel : Below B w W

theorem right_len {l : VL} (h : rightV l = true) : l.length ≤ 64 := by
  unfold rightV at h
  simp only [Bool.and_eq_true, decide_eq_true_eq] at h
  exact h.2
theorem right_up {l : VL} (h : rightV l = true) : Up l := by
  unfold rightV at h
  simp only [Bool.and_eq_true, decide_eq_true_eq] at h
  exact up_of_asc h.1.1.2

set_option maxRecDepth 100000 in
set_option maxHeartbeats 4000000 in
theorem update_any (A A' : Option Addr) (l cs : VL) (c c' : Nat) (w : World) (hl : l.length ≤ 1000) (hcs : cs.length ≤ 1000) (hA : Sl w w.heap.size 2 A l.length (vCells l)) (hA' : Sl w w.heap.size 2 A' cs.length (vCells cs)) :
    Calls Try.prog 9 #[.slice A l.length c, .slice A' cs.length c'] w (UpP w.heap.size (updateV l cs) w) := by
  have HR := Lib.hid (right_any A l c w (by unfold maxLen; omega) hA)
  obtain ⟨B, hB⟩ : ∃ B, w.heap.size = B := ⟨_, rfl⟩
  have HC := Lib.hid (fun (w1 : World) (hb : Below w.heap.size w w1) => clone_any A l c w1 (by omega) ((hA.below hb).more hb.size))
  have HS := Lib.hid hA'
  obtain ⟨n, hn⟩ : ∃ n, l.length = n := ⟨_, rfl⟩
  obtain ⟨m, hm⟩ : ∃ m, cs.length = m := ⟨_, rfl⟩
  have HN := Lib.hid hn
  have HM := Lib.hid hm
  have hm1 : m ≤ 1000 := by omega
  rw [hn] at HR HC ⊢
  rw [hm] at HS ⊢
  rw [hB] at HR HC HS ⊢
  obtain ⟨Q, hQ⟩ : ∃ Q, UpP B (updateV l cs) w = Q := ⟨_, rfl⟩
  have HQ := Lib.hid hQ
  rw [hQ]
  have HBW := Lib.hid hB
  clear hA hA' hl hcs hn hm hQ hB
  cases hr : rightV l with
  | false =>
    have HE : Hid (updateV l cs = ([], 71)) := Lib.hid (by unfold updateV; rw [hr]; rfl)
    rw [hr] at HR
    go_enter Try.func9, Try.ntmps9
    go_wp2_with fail
    with_reducible refine HR.out.mono ?_
    rintro e w1 ⟨rfl, hb1⟩
    have L1 := Lib.hid hb1
    clear hb1 HR
    go_wp2_with fail
    rw [← HQ.out]
    exact UpP.of HE.out (vown_nil _ _) L1.out
  | true =>
    rw [hr] at HR
    have HRT := Lib.hid hr
    clear hr
    go_enter Try.func9, Try.ntmps9
    go_wp2_with fail
    with_reducible refine HR.out.mono ?_
    rintro e w1 ⟨rfl, hb1⟩
    have L1 := Lib.hid hb1
    clear hb1 HR
    go_wp2_with fail
    with_reducible refine (HC.out w1 L1.out).mono ?_
    rintro e w2 ⟨v2, rfl, ho2, hb2⟩
    have L2 : Hid (Below B w w2) := Lib.hid (by have h1 := L1.out; have h2 := HBW.out; subst h2; exact h1.trans (hb2.mono h1.size))
    have O2 : Hid (VOwn w2 B v2 l) := Lib.hid (vown_low ho2 (by have h1 := L1.out.size; have h2 := HBW.out; omega))
    clear ho2 hb2 HC L1
    have HB0 : Hid (B ≤ w.heap.size) := Lib.hid (Nat.le_of_eq HBW.out.symm)
    go_wp2_with fail
    go_loopw [6, 19] (fun s i wr => ∃ (k : Nat) (lj : VL), k ≤ m ∧ i = .int .i64 k ∧ UpI w wr B s l cs k lj) (fun _ i _ => m - (intOf i).toNat)
    case atStart => exact ⟨0, l, by omega, rfl, ⟨O2.out, right_up HRT.out, by have := right_len HRT.out; omega, by simp, L2.out⟩⟩
    case round =>
      obtain ⟨k, lj, hk, rfl, hI⟩ := hrel
      have HI := Lib.hid hI
      clear hI
      by_cases hlt : k < m
      · obtain ⟨b, off, ke, pe, rfl, hb, hck, hcp, hlk⟩ := (sl_len HM.out (HS.out.below HI.out.bel)).val (k := k) (by rw [HM.out]; exact hlt)
        have HK := Lib.hid hlk
        obtain ⟨vb, hvb⟩ : ∃ vb, wr.heap.size = vb := ⟨_, rfl⟩
        obtain ⟨W, hW⟩ : ∃ W, wr.alloc (.cells #[.int .u64 ke, .int .i64 pe] 26) = W := ⟨_, rfl⟩
        have LW : Hid (Below wr.heap.size wr W) := Lib.hid (by rw [← hW]; exact (by (first | assumption | (repeat (first | exact Below.refl _ _ | assumption | apply Below.drew | apply below_drewN | (refine Below.setCell ?_ (by (try simp) <;> omega) _) | (refine Below.alloc ?_ (by (try simp) <;> omega) _))))))
        have KW : Bk W vb 26 #[.int .u64 ke, .int .i64 pe] := by rw [← hW, ← hvb]; exact Bk.new _ _ _
        have LB : Hid (Below B w W) := Lib.hid (HI.out.bel.trans (LW.out.mono (Nat.le_trans HB0.out HI.out.bel.size)))
        have HC := Lib.hid (change_any B _ lj ke pe W (by have := HI.out.len; omega) HI.out.up (vown_bl HI.out.own LW.out) (Nat.le_trans HB0.out LB.out.size))
        have c0 : W.cell? ⟨vb, 0, none⟩ = some (.int .u64 ke) := KW.cell 0
        have c1 : W.cell? ⟨vb, 1, none⟩ = some (.int .i64 pe) := KW.cell 1
        have HW := HI.out.way
        rw [drop_at hlk, updV] at HW
        clear LW KW
        go_wp2_with fail
        clear hvb hW c0 c1
        with_reducible refine HC.out.mono ?_
        rintro e w4 hP
        have L3 := LB
        clear HC hck hcp
        cases hst : stepV lj ke pe with
        | error n =>
          have hn := step_err hst
          unfold ChP at hP
          rw [hst] at hP HW
          obtain ⟨rfl, hb4⟩ := hP
          have HE : Hid (updateV l cs = ([], n)) := Lib.hid (by unfold updateV; rw [HRT.out, HW]; rfl)
          have L4 : Hid (Below B w w4) := Lib.hid (LB.out.trans hb4)
          clear hst HW hb4
          have e0 : (n == 0) = false := by rcases hn with rfl | rfl <;> rfl
          go_wp2_with fail
          rw [← HQ.out]
          exact UpP.of HE.out (vown_nil _ _) L4.out
        | ok l2 =>
          unfold ChP at hP
          rw [hst] at hP HW
          obtain ⟨v4, rfl, ho4, hb4⟩ := hP
          have L4 : Hid (Below B w w4) := Lib.hid (LB.out.trans hb4)
          have HN : Hid (UpI w w4 B v4 l cs (k+1) l2) := Lib.hid ⟨ho4, up_step HI.out.up hst, by have := step_len hst; have := HI.out.len; omega, HW, L4.out⟩
          clear hst HW hb4 ho4
          go_wp2_with fail
          go_roundw
          case rel => exact ⟨k+1, l2, by omega, by go_num, HN.out⟩
          case measure => simp [intOf]; omega
      · obtain rfl : k = m := by omega
        have HW : Hid (updV l cs = .ok lj) := Lib.hid (by rw [HI.out.way, ← HM.out, List.drop_length]; rfl)
        obtain ⟨A2, c2, hve, hnc, hcm, hsl⟩ := own_sl HI.out.own
        have HV := Lib.hid hve
        have HO := Lib.hid HI.out.own
        have HZ := Lib.hid (Nat.le_trans HB0.out HI.out.bel.size)
        rw [hve] at HI
        subst hve
        obtain ⟨nj, hnj⟩ : ∃ nj, lj.length = nj := ⟨_, rfl⟩
        have HS1 := Lib.hid (sum_any A2 lj c2 wr (by unfold maxLen; have := HI.out.len; omega) hsl)
        have HR1 := Lib.hid (fun (W : World) (hb : Below wr.heap.size wr W) => right_any A2 lj c2 W (by unfold maxLen; have := HI.out.len; omega) ((hsl.below hb).more hb.size))
        rw [hnj] at HS1 HR1 HV
        have HB1 := Lib.hid HI.out.bel
        have HNJ := Lib.hid hnj
        clear hsl hnc hcm HI HS
        rw [hnj]
        clear hnj
        go_wp2_with fail
        with_reducible refine HS1.out.mono ?_
        rintro e w4 ⟨rfl, hb4⟩
        have L4 := Lib.hid hb4
        clear HS1 hb4
        cases hs : (sumV 0 lj).2 with
        | false =>
          have HE : Hid (updateV l cs = ([], 72)) := Lib.hid (by unfold updateV endV; rw [HRT.out, HW.out]; simp [hs])
          have LE : Hid (Below B w w4) := Lib.hid (HB1.out.trans (L4.out.mono HZ.out))
          clear hs
          go_wp2_with fail
          rw [← HQ.out]
          exact UpP.of HE.out (vown_nil _ _) LE.out
        | true =>
          have HT := Lib.hid hs
          clear hs
          go_wp2_with fail
          with_reducible refine (HR1.out w4 L4.out).mono ?_
          rintro e w5 ⟨rfl, hb5⟩
          have L5 : Hid (Below wr.heap.size wr w5) := Lib.hid (L4.out.trans (hb5.mono L4.out.size))
          have LE : Hid (Below B w w5) := Lib.hid (HB1.out.trans (L5.out.mono HZ.out))
          clear HR1 hb5
          cases hs : rightV lj with
          | false =>
            have HE : Hid (updateV l cs = ([], 71)) := Lib.hid (by unfold updateV endV; rw [HRT.out, HW.out]; simp [HT.out, hs])
            clear hs
            go_wp2_with fail
            rw [← HQ.out]
            exact UpP.of HE.out (vown_nil _ _) LE.out
          | true =>
            have HE : Hid (updateV l cs = (lj, 0)) := Lib.hid (by unfold updateV endV; rw [HRT.out, HW.out]; simp [HT.out, hs])
            have OE := Lib.hid (vown_bl HO.out L5.out)
            clear hs
            go_wp2_with fail
            rw [← HQ.out]
            have oe := OE.out
            rw [HNJ.out] at oe
            exact UpP.of HE.out oe LE.out
end Go.Proofs.Ytlocapkofmpebaa

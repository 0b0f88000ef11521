/- What this text proves: the statement TurnsFair: for every list of validators the law returns true and leaves its argument as it was. No condition. -/
import Derived.Test.YtfnhlallfgfkkaaRows
import Derived.Test.YtfnhlallfgfkkaaOpen
import Derived.Test.YtfnhlallfgfkkaaTurnsAlive
import Derived.Test.YtfnhlallfgfkkaaSame08
import Derived.Test.YtfnhlallfgfkkaaKeys08
import Derived.Test.YtfnhlallfgfkkaaQuiet
import Derived.Test.YtfnhlallfgfkkaaTurnsFairMath
namespace Go.Proofs.Ytfnhlallfgfkkaa.turnsFair
open Go.ChangeShapes Go.WideShapes Go.ChangeAt Go.RowKit Go.BigFrame
set_option linter.unusedVariables false
set_option linter.unusedSimpArgs false

theorem keys_drop {l : List (Int × Int)} {T : Nat} (hr : rightV l = true) (hT : TP l = T) : (u64s (keys l (T + T))).drop T = u64s (keys l T) := by
  apply List.ext_getElem?
  intro k
  rw [List.getElem?_drop]
  by_cases hk : k < T
  · rw [keys_get (show T + k < T + T by omega), keys_get hk, key_again hr hT]
  · rw [List.getElem?_eq_none (by rw [u64s_len, keys_len]; omega), List.getElem?_eq_none (by rw [u64s_len, keys_len]; omega)]

set_option maxHeartbeats 4000000 in
theorem walk_not (A : Option Addr) (l : List (Int × Int)) (c : Nat) (w : World) (hl : l.length ≤ maxLen) (hA : Sl w w.heap.size 2 A l.length (vCells l)) (hn : rightV l = false ∨ 250 < TP l) :
    Calls Try.prog 3 #[.slice A l.length c] w fun e w' => e = .returned (.bool true) ∧ Below w.heap.size w w' := by
  have HC := Lib.hid (total_any A l c w hl hA)
  clear hA hl
  cases hr : rightV l with
  | false =>
    rw [show totalV l = (0, 71) from by rw [totalV, hr]; rfl] at HC
    clear hn hr
    go_enter Try.func3, Try.ntmps3
    go_wp2_with fail
    refine HC.out.mono ?_; rintro e w1 ⟨rfl, hb1⟩
    go_wp2_with fail
    refine (alive_any _).mono ?_; rintro e w2 ⟨rfl, hb2⟩
    go_wp2_with fail
    go_ret
    exact ⟨rfl, step_b hb1 hb2⟩
  | true =>
    have hT : 250 < TP l := by rcases hn with h | h; · rw [hr] at h; cases h
                               · exact h
    rw [show totalV l = (TP l, 0) from by rw [totalV, if_pos hr]; rfl] at HC
    obtain ⟨T, hTe⟩ : ∃ T, TP l = T := ⟨_, rfl⟩
    rw [hTe] at hT HC
    clear hn hr hTe
    go_enter Try.func3, Try.ntmps3
    go_wp2_with fail
    refine HC.out.mono ?_; rintro e w1 ⟨rfl, hb1⟩
    go_wp2_with fail
    refine (alive_any _).mono ?_; rintro e w2 ⟨rfl, hb2⟩
    go_wp2_with fail
    go_ret
    exact ⟨rfl, step_b hb1 hb2⟩

set_option maxHeartbeats 8000000 in
theorem walk_yes (A : Option Addr) (l : List (Int × Int)) (c T : Nat) (w : World) (hl : l.length ≤ c) (hcm : c ≤ maxLen) (hT : TP l = T) (hT2 : T ≤ 250) (hA : Sl w w.heap.size 2 A l.length (vCells l)) (hr : rightV l = true) :
    Calls Try.prog 3 #[.slice A l.length c] w fun e w' => e = .returned (.bool true) ∧ Below w.heap.size w w' := by
  obtain ⟨_, _, hl1, hl2⟩ := rightV_sum hr
  have hT1 := TP_pos hr
  rw [hT] at hT1
  have hlm : l.length ≤ maxLen := by unfold maxLen; omega
  have HC := Lib.hid (total_any A l c w hlm hA)
  rw [show totalV l = ((T : Int), 0) from by rw [totalV, if_pos hr, ← hT]; rfl] at HC
  obtain ⟨M, hM⟩ : ∃ M, T + T = M := ⟨_, rfl⟩
  have hdr := keys_drop hr hT
  rw [hM] at hdr
  have HDR := Lib.hid hdr
  have HO := Lib.hid (fun (w1 : World) (hb : Below w.heap.size w w1) => order_keys A l c M w1 hr (by omega) ((hA.below hb).more hb.size))
  clear hdr
  have HR := Lib.hid hr
  have HT := Lib.hid hT
  have HA := Lib.hid hA
  clear hA hr hlm hT
  unfold maxLen at hcm
  have e1 : (2 : Int) * (T : Int) = (M : Int) := by omega
  have e2 : ((M : Int) != (M : Int)) = false := by simp
  have e3 : ¬ (250 : Int) < (T : Int) := by omega
  have hTM : T < M := by omega
  have HM := Lib.hid hM
  clear hM
  go_enter Try.func3, Try.ntmps3
  go_wp2_with fail
  refine HC.out.mono ?_; rintro e w1 ⟨rfl, hb1⟩
  go_wp2_with fail
  refine (HO.out _ hb1).mono ?_; rintro e w2 ⟨A', c', rfl, hc1, hc2, hs2, hb2⟩
  have hb2' := step_b hb1 hb2
  clear hb2 hb1
  unfold maxLen at hc2
  obtain ⟨b, off, hAe, hb, _⟩ := hs2.at_ (by omega)
  subst hAe
  have HS2 := Lib.hid hs2
  clear hs2
  go_wp2_with fail
  clear e1 e2 e3
  go_loopw [7] (fun i wr => ∃ k : Nat, k ≤ l.length ∧ i = .int .i64 k ∧ Below w2.heap.size w2 wr) (fun i _ => l.length - (intOf i).toNat)
  case atStart => exact ⟨0, by omega, rfl, Below.refl _ _⟩
  case round =>
    obtain ⟨k, hk, rfl, hbel⟩ := hrel
    obtain ⟨wo, rfl⟩ : ∃ wo : World, wo = wr := ⟨_, rfl⟩
    by_cases hlt : k < l.length
    · go_wp2_with fail
      have hAo := HA.out.below (hb2'.trans (hbel.mono hb2'.size))
      obtain ⟨b1, off1, key, pw, rfl, hb1, _, _, hlk⟩ := hAo.val hlt
      have HF := Lib.hid (fair HR.out HT.out hlk)
      have HLK := Lib.hid hlk
      clear hAo hlk
      go_loopw [8, 9] (fun n t wr => ∃ j : Nat, j ≤ T ∧ t = .int .i64 j ∧ n = .int .i64 (cntK l key j) ∧ Below w2.heap.size w2 wr) (fun _ t _ => T - (intOf t).toNat)
      case atStart => exact ⟨0, by omega, rfl, rfl, hbel⟩
      case round =>
        clear hbel
        obtain ⟨j, hj, rfl, rfl, hbel⟩ := hrel
        have hz := hbel.size
        have hA' := HA.out.below (hb2'.trans (hbel.mono hb2'.size))
        obtain ⟨b1', off1', key', pw', hAe, _, hck, hcp, hlk'⟩ := hA'.val hlt
        injection hAe with hAe
        injection hAe with h1 h2
        subst h1 h2
        have hkp : (key', pw') = (key, pw) := by
          have := hlk'.symm.trans HLK.out
          injection this
        injection hkp with h1 h2
        subst h1 h2
        clear hA' hlk'
        by_cases hjT : j < T
        · obtain ⟨b', off', u, hAe, hb', hcu, hu⟩ := (HS2.out.below hbel).one (k := j) (by omega)
          injection hAe with hAe
          injection hAe with h1 h2
          subst h1 h2
          rw [keys_get (by omega)] at hu
          injection hu with hu
          subst hu
          have hbd := cntK_bd l key' j
          obtain ⟨hbd1, hbd2⟩ := hbd
          obtain ⟨n, hn⟩ : ∃ n, cntK l key' j = n := ⟨_, rfl⟩
          obtain ⟨kj, hkj⟩ : ∃ kj, keyAt l j = kj := ⟨_, rfl⟩
          have hst : cntK l key' (j + 1) = n + if kj = key' then 1 else 0 := by rw [cntK, hn, hkj]
          have HST := Lib.hid hst
          rw [hn] at hbd1 hbd2 ⊢
          rw [hkj] at hcu
          clear hn hkj hst
          by_cases hq : kj = key'
          · have e1 : (kj == key') = true := by simpa using hq
            have HQ := Lib.hid hq
            clear hq
            go_wp2_with fail
            go_quiet (fail)
            go_wp2_with fail
            go_roundw
            case rel => exact ⟨j + 1, by omega, by go_num, by rw [HST.out, if_pos HQ.out], (by (first | assumption | (repeat (first | exact Below.refl _ _ | assumption | apply Below.drew | apply below_drewN | (refine Below.setCell ?_ (by (try simp) <;> omega) _) | (refine Below.alloc ?_ (by (try simp) <;> omega) _)))))⟩
            case measure => simp [intOf]; omega
          · have e1 : (kj == key') = false := by simpa using hq
            go_wp2_with fail
            go_quiet (fail)
            go_wp2_with fail
            go_roundw
            case rel => exact ⟨j + 1, by omega, by go_num, by rw [HST.out, if_neg hq, Int.add_zero], (by (first | assumption | (repeat (first | exact Below.refl _ _ | assumption | apply Below.drew | apply below_drewN | (refine Below.setCell ?_ (by (try simp) <;> omega) _) | (refine Below.alloc ?_ (by (try simp) <;> omega) _)))))⟩
            case measure => simp [intOf]; omega
        · obtain rfl : j = T := by omega
          rw [HF.out]
          have e1 : (pw' != pw') = false := by simp
          go_wp2_with fail
          go_roundw
          case rel => exact ⟨k + 1, by omega, by go_num, hbel⟩
          case measure => simp [intOf]; omega
    · obtain rfl : k = l.length := by omega
      go_wp2_with fail
      have hs9 := (HS2.out.below hbel).more hbel.size
      have hsT := hs9.take (k := T) (by omega)
      have hsD := hs9.drop (k := T) (cap := c') (by omega) (by omega)
      rw [Nat.mul_one, keys_take (by omega)] at hsT
      rw [Nat.mul_one, HDR.out, if_neg (by omega)] at hsD
      have hMT : M - T = T := by have := HM.out; omega
      rw [hMT] at hsD
      have hsame : ∀ x : BW wo, Calls Try.prog 11 #[.slice (some ⟨b, off, none⟩) T c', .slice (some ⟨b, off + T, none⟩) T (c' - T)] x.val fun e w' => e = .returned (.bool true) ∧ Below x.val.heap.size x.val w' := by
        intro x
        have := same_any (some ⟨b, off, none⟩) (some ⟨b, off + T, none⟩) (keys l T) (keys l T) c' (c' - T) x.val (by rw [keys_len]; unfold maxLen; omega) (by rw [keys_len]; unfold maxLen; omega)
          (by rw [keys_len]; exact x.sl hsT (Nat.le_refl _)) (by rw [keys_len]; have e := x.sl hsD (Nat.le_refl _); simpa [Addr.add, show ¬ T = 0 from by omega] using e)
        rw [keys_len] at this
        simpa using this
      have HSA := Lib.hid hsame
      clear hs9 hsT hsD hsame
      have f1 : (T : Int) ≤ (c' : Int) := by omega
      have f2 : (T : Int) ≤ (M : Int) := by omega
      have f3 : ¬ c' = T := by omega
      have f4 : ((T : Int)).toNat = T := by omega
      refine wp_region_bw (by kernel_rfl) (by kernel_rfl) ?_
      repeat (go_big_quiet_step (first | exact quiet_bw _ (alive_any _) | exact quiet_bw _ (HSA.out _)))
      refine wpQuiet_nil ?_; intro _ hwq; obtain ⟨⟨wq, hbq⟩, hwq'⟩ := hwq; subst hwq'
      go_wp2_with fail
      go_ret
      exact ⟨rfl, (step_b hb2' hbel).trans (hbq.mono (Nat.le_trans hb2'.size hbel.size))⟩

theorem walk (A : Option Addr) (l : List (Int × Int)) (c : Nat) (hl : l.length ≤ c) (hcm : c ≤ maxLen) {w : World} (hA : Sl w w.heap.size 2 A l.length (vCells l)) (hwf : ∀ x ∈ l, (Lit.int .u64 x.1).wf = true ∧ (Lit.int .i64 x.2).wf = true) (_ : World) :
    Calls Try.prog 3 #[.slice A l.length c] w fun e w' => e = .returned (.bool true) ∧ Below w.heap.size w w' := by
  by_cases hn : rightV l = false ∨ 250 < TP l
  · exact walk_not A l c w (Nat.le_trans hl hcm) hA hn
  · have hr : rightV l = true := by
      cases h : rightV l with
      | true => rfl
      | false => exact absurd (.inl h) hn
    have := TP_pos hr
    exact walk_yes A l c (TP l).toNat w hl hcm (by omega) (by omega) hA hr

set_option maxRecDepth 100000 in
theorem lifted (os : Os) (started : os.Started) (H : Type) (enc : TypeId × Value → H) :
    ReturnsInHanded {} Try.checked os 3 .any (Rows.turnsFairSpec.pre6 enc Try.prog Try.f3 Rows.turnsFairRow.domain false) (Rows.turnsFairSpec.post enc Try.prog Try.f3 false true false false) := by
  refine returnsInHanded_of_change (C := Try.checked) own started (by kernel_rfl) Try.func3
    (ChangeSpec.witness6 (enc := enc) (C := Try.checked) false ⟨#[], #[.slice none 0 0], []⟩ 8 (by kernel_rfl) (by kernel_rfl) (by kernel_rfl) (by kernel_rfl)) ?_
  intro W base args ds gs before hval0 hW hcnd _
  have hval : ∀ (j : Nat) t v, Try.f3.params[j]? = some t → args[j]? = some v → Value.okWide Try.prog W .any base t v := hval0
  have hW' := hW
  obtain ⟨p, q, hA0, hV, rfl, hfz, hnd⟩ := hW
  have hA : DataW.TrodAll enc Try.prog W 0 (fun _ => true) true Try.f3.params.toList args.toList ds p := hA0
  rw [Try.params3] at hA hval
  obtain ⟨v0, vs0, d0, ds0, p0, q0, hargs, rfl, rfl, h0, r0⟩ := trodAll_cons hA
  obtain ⟨rfl, rfl, rfl⟩ := trodAll_nil r0
  obtain rfl : args = #[v0] := by cases args; simp_all
  obtain ⟨rfl, rfl⟩ := trodVars_none hV
  have k0 := h0
  have lt0 : ∀ x ∈ p0, x.block < W.heap.size := by obtain ⟨m, hm⟩ := k0; exact DataW.trod_lt m _ _ _ hm
  obtain ⟨A0, l0, c0, rfl, u0, m0, s0, w0⟩ := open_vals (hval 0 22 v0 rfl rfl) h0 lt0
  clear hA0 hval0
  refine (walk A0 l0 c0 u0 m0 s0 w0 W).mono fun e W' ⟨he, bel⟩ => ?_
  subst he
  exact ⟨_, rfl, _, _, _, [], _, [], hW', trodAll_mk1 (shut_bool Try.underlying4 _), (trodAll_cons_mk (Below.trod laidOut (by kernel_rfl) (of_decide_eq_true (by kernel_rfl)) k0 bel lt0) trodAll_mk0), rfl, bel.frame _, fun h => by cases h⟩

theorem over : Rows.turnsFairRow.holds Try.pinned (OpenSpec.ofChange Rows.turnsFairSpec) :=
  OpenClaim.holds_of_wide 3 Try.f3 rfl rfl rfl rfl rfl rfl rfl ⟨rfl, rfl, rfl, rfl, rfl⟩ rfl rfl rfl rfl rfl (by kernel_rfl) Try.func3 (by kernel_rfl)
    (of_decide_eq_true (by kernel_rfl)) (by unfold Func.isWrapper; first | (rw [if_pos (by decide +kernel)]; kernel_rfl) | (rw [if_neg (by decide +kernel)]; exact ⟨rfl, rfl⟩))
    (fun os started H enc _ => lifted os started H enc)

/-- The statement. -/
theorem proved : Rows.TurnsFairSaid := over
#print axioms proved
end Go.Proofs.Ytfnhlallfgfkkaa.turnsFair

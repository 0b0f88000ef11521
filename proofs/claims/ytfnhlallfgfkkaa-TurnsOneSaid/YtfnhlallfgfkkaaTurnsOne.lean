/- What this text proves: the statement TurnsOne: for every list of validators and all numbers the law returns true and leaves its arguments as they were. No condition. -/
import Derived.Test.YtfnhlallfgfkkaaRows
import Derived.Test.YtfnhlallfgfkkaaOpen
import Derived.Test.YtfnhlallfgfkkaaProposer
import Derived.Test.YtfnhlallfgfkkaaTurnsAlive
import Derived.Test.YtfnhlallfgfkkaaSame08
import Derived.Test.YtfnhlallfgfkkaaPower
namespace Go.Proofs.Ytfnhlallfgfkkaa.turnsOne
open Go.ChangeShapes Go.WideShapes Go.ChangeAt Go.RowKit
set_option linter.unusedVariables false
set_option linter.unusedSimpArgs false

theorem power_pos : ∀ (l : List (Int × Int)), (∀ v ∈ l, 1 ≤ v.2) → ∀ v ∈ l, 1 ≤ powerV l v.1
  | [], _, v, h => by cases h
  | a :: l, hl, v, h => by
    rw [powerV]
    split
    · exact hl a (by simp)
    · rename_i hne
      rcases List.mem_cons.1 h with rfl | h
      · exact absurd rfl hne
      · exact power_pos l (fun x hx => hl x (by simp [hx])) v h
theorem key_power {l : List (Int × Int)} (hr : rightV l = true) (t : Nat) : 1 ≤ powerV l (keyAt l t) := by
  obtain ⟨h2, _, h1, _⟩ := rightV_sum hr
  obtain ⟨_, _, h3⟩ := sumV_right l 0 (by omega) (by omega) h2
  have hw := whoAt_lt l t (by omega)
  obtain ⟨v, hv⟩ := some_of hw
  rw [keyAt, getD_of hv]
  exact power_pos l (fun x hx => (h3 x hx).1) v (List.mem_of_getElem? hv)
def keys (l : List (Int × Int)) (n : Nat) : List Int := (List.range n).map (keyAt l)
theorem keys_len (l : List (Int × Int)) (n : Nat) : (keys l n).length = n := by simp [keys]
theorem keys_get {l : List (Int × Int)} {n k : Nat} (h : k < n) : (u64s (keys l n))[k]? = some (.int .u64 (keyAt l k)) := by
  simp [u64s, keys, h]
theorem keys_take {l : List (Int × Int)} {n k : Nat} (h : k ≤ n) : (u64s (keys l n)).take k = u64s (keys l k) := by
  simp [u64s, keys, ← List.map_take, List.take_range, Nat.min_eq_left h]

/-- Order, where it gives turns. -/
theorem order_keys (A : Option Addr) (l : List (Int × Int)) (c N : Nat) (w : World) (hr : rightV l = true) (h : N ≤ 4096) (hA : Sl w w.heap.size 2 A l.length (vCells l)) :
    Calls Try.prog 10 #[.slice A l.length c, .int .i64 N] w fun e w' =>
      ∃ A' c', e = .returned (.tuple #[.slice A' N c', .int .i64 0]) ∧ N ≤ c' ∧ c' ≤ maxLen ∧ Sl w' w'.heap.size 1 A' N (u64s (keys l N)) ∧ Below w.heap.size w w' := by
  obtain ⟨_, _, _, h4⟩ := rightV_sum hr
  refine (order_any A l c N w (by unfold maxLen; omega) hA).mono ?_
  rw [orderV_some hr h]
  rintro e w' ⟨v, rfl, hrow, hb⟩
  simp only [List.length_map, List.length_range] at hrow
  obtain ⟨A', c', rfl, h1, h2, h3⟩ := own_sl hrow
  exact ⟨A', c', rfl, h1, h2, h3, hb⟩

set_option maxHeartbeats 4000000 in
theorem walk_yes (A : Option Addr) (l : List (Int × Int)) (c N : Nat) (t : Int) (w : World) (hl : l.length ≤ c) (hcm : c ≤ maxLen) (hN : N ≤ 500) (ht1 : -9223372036854775808 ≤ t) (ht2 : t ≤ 9223372036854775807) (hA : Sl w w.heap.size 2 A l.length (vCells l)) (hr : rightV l = true) :
    Calls Try.prog 7 #[.slice A l.length c, .int .i64 N, .int .i64 t] w fun e w' => e = .returned (.bool true) ∧ Below w.heap.size w w' := by
  obtain ⟨_, _, hl1, hl2⟩ := rightV_sum hr
  have hlm : l.length ≤ maxLen := by unfold maxLen; omega
  have HC := Lib.hid (right_any A l c w hlm hA)
  rw [hr] at HC
  have HO := Lib.hid (fun (N : Nat) (hN : N ≤ 500) (w1 : World) (hb : Below w.heap.size w w1) => order_keys A l c N w1 hr (by omega) ((hA.below hb).more hb.size))
  have HPow := Lib.hid (fun (k : Int) (w1 : World) (hb : Below w.heap.size w w1) => power_any A l c k w1 hlm ((hA.below hb).more hb.size))
  have HP := Lib.hid (fun (T : Nat) (hT : T < 500) (w1 : World) (hb : Below w.heap.size w w1) => prop_some A l c T w1 hr (by omega) ((hA.below hb).more hb.size))
  have HR := Lib.hid hr
  clear hA hr hlm
  unfold maxLen at hcm
  have e1 : decide (70 < l.length) = false := by simp; omega
  have e2 : ((N : Int) != (N : Int)) = false := by simp
  have e3 : ((N : Int) == (N : Int)) = true := by simp
  have e4 : decide ((500 : Int) < (N : Int)) = false := by simp; omega
  have e5 : decide ((N : Int) < 0) = false := by simp
  go_enter Try.func7, Try.ntmps7
  go_wp2_with fail
  refine HC.out.mono ?_; rintro e w1 ⟨rfl, hb1⟩
  go_wp2_with fail
  refine (HO.out N hN _ hb1).mono ?_; rintro e w2 ⟨A', c', rfl, hc1, hc2, hs2, hb2⟩
  have hb2' := step_b hb1 hb2
  clear hb2 hb1
  unfold maxLen at hc2
  have HS2 := Lib.hid hs2
  clear hs2
  go_wp2_with fail
  clear e1 e2 e3 e4 e5
  go_loopw [9] (fun i wr => ∃ k : Nat, k ≤ N ∧ i = .int .i64 k ∧ Below w2.heap.size w2 wr) (fun i _ => N - (intOf i).toNat)
  case atStart => exact ⟨0, by omega, rfl, Below.refl _ _⟩
  case round =>
    obtain ⟨k, hk, rfl, hbel⟩ := hrel
    have hz := hbel.size
    by_cases hlt : k < N
    · obtain ⟨b, off, u, rfl, hb, hcu, hu⟩ := (HS2.out.below hbel).one hlt
      rw [keys_get hlt] at hu
      injection hu with hu
      subst hu
      have hp1 : (powerV l (keyAt l k) == 0) = false := by
        have := key_power HR.out k
        simp; omega
      obtain ⟨K, hK⟩ : ∃ K, keyAt l k = K := ⟨_, rfl⟩
      rw [hK] at hcu hp1
      obtain ⟨pw, hpw⟩ : ∃ pw, powerV l K = pw := ⟨_, rfl⟩
      have HPW := HPow.out K wr (step_b hb2' hbel)
      rw [hpw] at hp1 HPW
      have HPW' := Lib.hid HPW
      clear hpw HPW hK
      go_wp2_with fail
      refine HPW'.out.mono ?_; rintro e w3 ⟨rfl, hb3⟩
      go_wp2_with fail
      go_roundw
      case rel => exact ⟨k + 1, by omega, by go_num, step_b hbel hb3⟩
      case measure => simp [intOf]; omega
    · obtain rfl : k = N := by omega
      by_cases h0 : k = 0
      · subst h0
        go_wp2_with fail
        refine (alive_any _).mono ?_; rintro e w3 ⟨rfl, hb3⟩
        go_wp2_with fail
        go_ret
        exact ⟨rfl, step_b (step_b hb2' hbel) hb3⟩
      · have e6 : ((k : Int) == 0) = false := by simp; omega
        have hN1 : (1 : Int) ≤ (k : Int) := by omega
        obtain ⟨T, hT⟩ : ∃ T : Nat, T = (if t < 0 then -(t + 1) else t).toNat % k := ⟨_, rfl⟩
        have hTk : T < k := by rw [hT]; exact Nat.mod_lt _ (by omega)
        have hT' : (if t < 0 then -(t + 1) else t) % (k : Int) = (T : Int) := by
          rw [hT, Int.natCast_emod, Int.toNat_of_nonneg (by split <;> omega)]
        have HT := Lib.hid hT'
        clear hT hT'
        have hs5 := HS2.out
        obtain ⟨b, off, u, hAe, hb, hcu, hu⟩ := hs5.one hTk
        rw [keys_get hTk] at hu
        injection hu with hu
        subst hu
        subst hAe
        have hst := hs5.take (k := T) (by omega)
        rw [Nat.mul_one, keys_take (by omega)] at hst
        have HST := Lib.hid hst
        clear hs5 hst
        have HCU := Lib.hid (fun (W : World) (h : Below w2.heap.size w2 W) => (h.cell (p := ⟨b, off + T, none⟩) hb).trans hcu)
        clear hcu
        have hKK : (keyAt l T == keyAt l T) = true := by simp
        have HPr := HP.out T (by omega) wr (step_b hb2' hbel)
        have HOr := HO.out T (by omega)
        obtain ⟨K, hK⟩ : ∃ K, keyAt l T = K := ⟨_, rfl⟩
        rw [hK] at hKK HPr HCU
        have HPr' := Lib.hid HPr
        have HOr' := Lib.hid HOr
        clear hK HPr HOr
        have fin : ∀ (w3 w4 w5 : World) (A2 : Option Addr) (c2 : Nat), Below wr.heap.size wr w3 → Below w3.heap.size w3 w4 → Below w4.heap.size w4 w5 → Sl w4 w4.heap.size 1 A2 T (u64s (keys l T)) →
            w5.cell? ⟨b, off + T, none⟩ = some (.int .u64 K) ∧ Calls Try.prog 11 #[.slice A2 T c2, .slice (some ⟨b, off, none⟩) T c'] w5 fun e w' => e = .returned (.bool true) ∧ Below w5.heap.size w5 w' := by
          intro w3 w4 w5 A2 c2 h3 h4 h5 hs
          have hb5 := step_b (step_b (step_b hbel h3) h4) h5
          refine ⟨HCU.out _ hb5, ?_⟩
          have := same_any A2 (some ⟨b, off, none⟩) (keys l T) (keys l T) c2 c' w5 (by rw [keys_len]; unfold maxLen; omega) (by rw [keys_len]; unfold maxLen; omega)
            (by rw [keys_len]; exact (hs.below h5).more h5.size) (by rw [keys_len]; exact (HST.out.below hb5).more hb5.size)
          rw [keys_len] at this
          simpa using this
        have FIN := Lib.hid fin
        clear fin
        by_cases htn : t < 0
        · have hT2 := HT.out
          rw [if_pos htn] at hT2
          have e7 : IntKind.i64.wrap (t + 1) = t + 1 := IntWalk.i64_in _ (by omega)
          have e8 : IntKind.i64.wrap (-(t + 1)) = -(t + 1) := IntWalk.i64_in _ (by omega)
          have e9 : 0 ≤ -(t + 1) := by omega
          have e10 : (-(t + 1)).tmod (k : Int) = (T : Int) := by rw [Int.tmod_eq_emod_of_nonneg (by omega)]; exact hT2
          go_wp2_with fail
          refine HPr'.out.mono ?_; rintro e w3 ⟨rfl, hb3⟩
          go_wp2_with fail
          refine (HOr'.out _ (step_b hb2' (step_b hbel hb3))).mono ?_; rintro e w4 ⟨A2, c2, rfl, hq1, hq2, hs4, hb4⟩
          have F := FIN.out w3 w4
          have HS4 := Lib.hid hs4
          have HF := Lib.hid F
          clear hs4 F
          go_wp2_with fail
          refine (alive_any _).mono ?_; rintro e w5 ⟨rfl, hb5⟩
          obtain ⟨g1, HSA⟩ := HF.out w5 A2 c2 hb3 hb4 hb5 HS4.out
          have HSA' := Lib.hid HSA
          clear HSA HF HS4
          go_wp2_with fail
          refine HSA'.out.mono ?_; rintro e w6 ⟨rfl, hb6⟩
          go_wp2_with fail
          go_ret
          exact ⟨rfl, step_b (step_b (step_b (step_b (step_b hb2' hbel) hb3) hb4) hb5) hb6⟩
        · have hT2 := HT.out
          rw [if_neg htn] at hT2
          have e9 : 0 ≤ t := by omega
          have e10 : t.tmod (k : Int) = (T : Int) := by rw [Int.tmod_eq_emod_of_nonneg (by omega)]; exact hT2
          go_wp2_with fail
          refine HPr'.out.mono ?_; rintro e w3 ⟨rfl, hb3⟩
          go_wp2_with fail
          refine (HOr'.out _ (step_b hb2' (step_b hbel hb3))).mono ?_; rintro e w4 ⟨A2, c2, rfl, hq1, hq2, hs4, hb4⟩
          have F := FIN.out w3 w4
          have HS4 := Lib.hid hs4
          have HF := Lib.hid F
          clear hs4 F
          go_wp2_with fail
          refine (alive_any _).mono ?_; rintro e w5 ⟨rfl, hb5⟩
          obtain ⟨g1, HSA⟩ := HF.out w5 A2 c2 hb3 hb4 hb5 HS4.out
          have HSA' := Lib.hid HSA
          clear HSA HF HS4
          go_wp2_with fail
          refine HSA'.out.mono ?_; rintro e w6 ⟨rfl, hb6⟩
          go_wp2_with fail
          go_ret
          exact ⟨rfl, step_b (step_b (step_b (step_b (step_b hb2' hbel) hb3) hb4) hb5) hb6⟩

set_option maxHeartbeats 1000000 in
theorem walk_not (A : Option Addr) (l : List (Int × Int)) (c : Nat) (n t : Int) (w : World) (hl : l.length ≤ maxLen) (hA : Sl w w.heap.size 2 A l.length (vCells l)) (hn : 70 < l.length ∨ 500 < n ∨ rightV l = false ∨ n < 0) :
    Calls Try.prog 7 #[.slice A l.length c, .int .i64 n, .int .i64 t] w fun e w' => e = .returned (.bool true) ∧ Below w.heap.size w w' := by
  have HC := Lib.hid (right_any A l c w hl hA)
  clear hA
  unfold maxLen at hl
  by_cases h1 : 70 < l.length
  · clear hn
    go_enter Try.func7, Try.ntmps7
    go_wp2_with fail
    refine (alive_any _).mono ?_; rintro e w1 ⟨rfl, hb1⟩
    go_wp2_with fail
    go_ret
    exact ⟨rfl, hb1⟩
  · have e1 : decide (70 < l.length) = false := by simp; omega
    by_cases h2 : 500 < n
    · clear hn
      go_enter Try.func7, Try.ntmps7
      go_wp2_with fail
      refine (alive_any _).mono ?_; rintro e w1 ⟨rfl, hb1⟩
      go_wp2_with fail
      go_ret
      exact ⟨rfl, hb1⟩
    · have e2 : decide ((500 : Int) < n) = false := by simp; omega
      cases hr : rightV l with
      | false =>
        rw [hr] at HC
        clear hn hr
        go_enter Try.func7, Try.ntmps7
        go_wp2_with fail
        refine HC.out.mono ?_; rintro e w1 ⟨rfl, hb1⟩
        go_wp2_with fail
        refine (alive_any _).mono ?_; rintro e w2 ⟨rfl, hb2⟩
        go_wp2_with fail
        go_ret
        exact ⟨rfl, step_b hb1 hb2⟩
      | true =>
        have h3 : n < 0 := by
          rw [hr] at hn
          rcases hn with h | h | h | h
          · omega
          · omega
          · cases h
          · exact h
        have e3 : decide (n < 0) = true := by simpa using h3
        rw [hr] at HC
        clear hn hr
        go_enter Try.func7, Try.ntmps7
        go_wp2_with fail
        refine HC.out.mono ?_; rintro e w1 ⟨rfl, hb1⟩
        go_wp2_with fail
        refine (alive_any _).mono ?_; rintro e w2 ⟨rfl, hb2⟩
        go_wp2_with fail
        go_ret
        exact ⟨rfl, step_b hb1 hb2⟩

theorem walk (A : Option Addr) (l : List (Int × Int)) (c : Nat) (hl : l.length ≤ c) (hcm : c ≤ maxLen) {w : World} (hA : Sl w w.heap.size 2 A l.length (vCells l)) (hwf : ∀ x ∈ l, (Lit.int .u64 x.1).wf = true ∧ (Lit.int .i64 x.2).wf = true) (n : Int) (hn : (Lit.int .i64 n).wf = true) (t : Int) (ht : (Lit.int .i64 t).wf = true) (_ : World) :
    Calls Try.prog 7 #[.slice A l.length c, .int .i64 n, .int .i64 t] w fun e w' => e = .returned (.bool true) ∧ Below w.heap.size w w' := by
  by_cases hn : 70 < l.length ∨ 500 < n ∨ rightV l = false ∨ n < 0
  · exact walk_not A l c n t w (Nat.le_trans hl hcm) hA hn
  · have hr : rightV l = true := by
      cases h : rightV l with
      | true => rfl
      | false => exact absurd (.inr (.inr (.inl h))) hn
    obtain ⟨N, rfl⟩ : ∃ N : Nat, n = N := ⟨n.toNat, by omega⟩
    have ht' := bounds_i64 ht
    exact walk_yes A l c N t w hl hcm (by omega) ht'.1 ht'.2 hA hr

set_option maxRecDepth 100000 in
theorem lifted (os : Os) (started : os.Started) (H : Type) (enc : TypeId × Value → H) :
    ReturnsInHanded {} Try.checked os 7 .any (Rows.turnsOneSpec.pre6 enc Try.prog Try.f7 Rows.turnsOneRow.domain false) (Rows.turnsOneSpec.post enc Try.prog Try.f7 false true false false) := by
  refine returnsInHanded_of_change (C := Try.checked) own started (by kernel_rfl) Try.func7
    (ChangeSpec.witness6 (enc := enc) (C := Try.checked) false ⟨#[], #[.slice none 0 0, .int .i64 0, .int .i64 0], []⟩ 8 (by kernel_rfl) (by kernel_rfl) (by kernel_rfl) (by kernel_rfl)) ?_
  intro W base args ds gs before hval0 hW hcnd _
  have hval : ∀ (j : Nat) t v, Try.f7.params[j]? = some t → args[j]? = some v → Value.okWide Try.prog W .any base t v := hval0
  have hW' := hW
  obtain ⟨p, q, hA0, hV, rfl, hfz, hnd⟩ := hW
  have hA : DataW.TrodAll enc Try.prog W 0 (fun _ => true) true Try.f7.params.toList args.toList ds p := hA0
  rw [Try.params7] at hA hval
  obtain ⟨v0, vs0, d0, ds0, p0, q0, hargs, rfl, rfl, h0, r0⟩ := trodAll_cons hA
  obtain ⟨v1, vs1, d1, ds1, p1, q1, rfl, rfl, rfl, h1, r1⟩ := trodAll_cons r0
  obtain ⟨v2, vs2, d2, ds2, p2, q2, rfl, rfl, rfl, h2, r2⟩ := trodAll_cons r1
  obtain ⟨rfl, rfl, rfl⟩ := trodAll_nil r2
  obtain rfl : args = #[v0, v1, v2] := by cases args; simp_all
  obtain ⟨rfl, rfl⟩ := trodVars_none hV
  have k0 := h0
  have lt0 : ∀ x ∈ p0, x.block < W.heap.size := by obtain ⟨m, hm⟩ := k0; exact DataW.trod_lt m _ _ _ hm
  have k1 := h1
  have lt1 : ∀ x ∈ p1, x.block < W.heap.size := by obtain ⟨m, hm⟩ := k1; exact DataW.trod_lt m _ _ _ hm
  have k2 := h2
  have lt2 : ∀ x ∈ p2, x.block < W.heap.size := by obtain ⟨m, hm⟩ := k2; exact DataW.trod_lt m _ _ _ hm
  obtain ⟨A0, l0, c0, rfl, u0, m0, s0, w0⟩ := open_vals (hval 0 22 v0 rfl rfl) h0 lt0
  obtain ⟨a1, rfl, _, _, w1⟩ := open_int Try.underlying3 (hval 1 3 v1 rfl rfl) h1
  obtain ⟨a2, rfl, _, _, w2⟩ := open_int Try.underlying3 (hval 2 3 v2 rfl rfl) h2
  clear hA0 hval0
  refine (walk A0 l0 c0 u0 m0 s0 w0 a1 w1 a2 w2 W).mono fun e W' ⟨he, bel⟩ => ?_
  subst he
  exact ⟨_, rfl, _, _, _, [], _, [], hW', trodAll_mk1 (shut_bool Try.underlying4 _), (trodAll_cons_mk (Below.trod laidOut (by kernel_rfl) (of_decide_eq_true (by kernel_rfl)) k0 bel lt0) (trodAll_cons_mk (Below.trod laidOut (by kernel_rfl) (of_decide_eq_true (by kernel_rfl)) k1 bel lt1) (trodAll_cons_mk (Below.trod laidOut (by kernel_rfl) (of_decide_eq_true (by kernel_rfl)) k2 bel lt2) trodAll_mk0))), rfl, bel.frame _, fun h => by cases h⟩

theorem over : Rows.turnsOneRow.holds Try.pinned (OpenSpec.ofChange Rows.turnsOneSpec) :=
  OpenClaim.holds_of_wide 7 Try.f7 rfl rfl rfl rfl rfl rfl rfl ⟨rfl, rfl, rfl, rfl, rfl⟩ rfl rfl rfl rfl rfl (by kernel_rfl) Try.func7 (by kernel_rfl)
    (of_decide_eq_true (by kernel_rfl)) (by unfold Func.isWrapper; first | (rw [if_pos (by decide +kernel)]; kernel_rfl) | (rw [if_neg (by decide +kernel)]; exact ⟨rfl, rfl⟩))
    (fun os started H enc _ => lifted os started H enc)

/-- The statement. -/
theorem proved : Rows.TurnsOneSaid := over
#print axioms proved
end Go.Proofs.Ytfnhlallfgfkkaa.turnsOne

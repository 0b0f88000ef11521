/- What this text proves: the statement TurnsFirst: for every list of validators and every turn the law returns true and leaves its arguments as they were. No condition. -/
import Derived.Test.YtfnhlallfgfkkaaRows
import Derived.Test.YtfnhlallfgfkkaaOpen
import Derived.Test.YtfnhlallfgfkkaaProposer
import Derived.Test.YtfnhlallfgfkkaaTurnsAlive
namespace Go.Proofs.Ytfnhlallfgfkkaa.turnsFirst
open Go.ChangeShapes Go.WideShapes Go.ChangeAt Go.RowKit
set_option linter.unusedVariables false
set_option linter.unusedSimpArgs false

/-- Powers. -/
def pows (l : List (Int × Int)) : List Int := l.map (·.2)
theorem qAt_zero (l : List (Int × Int)) : qAt l 0 = pows l := by
  apply List.ext_getElem
  · rw [qAt_len]; simp [pows]
  · intro i h1 h2
    have hi : i < l.length := by rw [qAt_len] at h1; exact h1
    have hz : (prioAt l 0)[i]? = some 0 := by simp [prioAt, List.getElem?_replicate, hi]
    have := addW_get hz (List.getElem?_eq_getElem hi)
    rw [List.getElem_eq_iff, qAt, this]
    simp [pows]
theorem keyAt_zero {l : List (Int × Int)} {k p : Int} (h : l[argK (pows l) l.length]? = some (k, p)) : keyAt l 0 = k := by
  rw [keyAt, whoAt, qAt_zero, getD_of h]
theorem key_one (v : Int × Int) (t : Nat) : keyAt [v] t = v.1 := by
  have h := whoAt_lt [v] t (by simp)
  have : whoAt [v] t = 0 := by simp at h; exact h
  rw [keyAt, this]
  rfl
theorem right_one {v : Int × Int} {l : List (Int × Int)} (h : rightV (v :: l) = true) : rightV [v] = true := by
  obtain ⟨h2, _, _, _⟩ := rightV_sum h
  obtain ⟨_, _, h3⟩ := sumV_right (v :: l) 0 (by omega) (by omega) h2
  have hv := h3 v (by simp)
  have hs : sumV 0 [v] = (0 + v.2, true) := by
    rw [sumV, if_neg (by omega), sumV]
  simp [rightV, hs, ascV]

set_option maxHeartbeats 1000000 in
theorem walk_not (A : Option Addr) (l : List (Int × Int)) (c : Nat) (t : Int) (w : World) (hl : l.length ≤ maxLen) (hA : Sl w w.heap.size 2 A l.length (vCells l)) (hn : 70 < l.length ∨ rightV l = false) :
    Calls Try.prog 5 #[.slice A l.length c, .int .i64 t] w fun e w' => e = .returned (.bool true) ∧ Below w.heap.size w w' := by
  have HC := Lib.hid (right_any A l c w hl hA)
  clear hA
  unfold maxLen at hl
  by_cases h1 : 70 < l.length
  · go_enter Try.func5, Try.ntmps5
    go_wp2_with fail
    refine (alive_any _).mono ?_; rintro e w1 ⟨rfl, hb1⟩
    go_wp2_with fail
    go_ret
    exact ⟨rfl, hb1⟩
  · have hr : rightV l = false := by rcases hn with h | h; · exact absurd h h1
                                     · exact h
    rw [hr] at HC
    clear hr hn
    have e1 : decide (70 < l.length) = false := by simp; omega
    go_enter Try.func5, Try.ntmps5
    go_wp2_with fail
    refine HC.out.mono ?_; rintro e w1 ⟨rfl, hb1⟩
    go_wp2_with fail
    refine (alive_any _).mono ?_; rintro e w2 ⟨rfl, hb2⟩
    go_wp2_with fail
    go_ret
    exact ⟨rfl, hb1.trans (hb2.mono hb1.size)⟩

set_option maxHeartbeats 4000000 in
theorem walk_yes (A : Option Addr) (v : Int × Int) (l' l : List (Int × Int)) (c : Nat) (t : Int) (w : World) (hv : l = v :: l') (hl : l.length ≤ c) (hcm : c ≤ maxLen) (hA : Sl w w.heap.size 2 A l.length (vCells l)) (hr : rightV l = true) :
    Calls Try.prog 5 #[.slice A l.length c, .int .i64 t] w fun e w' => e = .returned (.bool true) ∧ Below w.heap.size w w' := by
  obtain ⟨_, _, hl1, hl2⟩ := rightV_sum hr
  have HC := Lib.hid (right_any A l c w (by unfold maxLen; omega) hA)
  rw [hr] at HC
  have HP0 := Lib.hid (fun (w1 : World) (hb : Below w.heap.size w w1) => prop_some A l c 0 w1 hr (by omega) ((hA.below hb).more hb.size))
  have hr1 : rightV [v] = true := right_one (hv ▸ hr)
  have hA1 : Sl w w.heap.size 2 A 1 (vCells [v]) := by
    have := hA.take (k := 1) (by omega)
    rw [vCells_take, hv] at this
    exact this
  obtain ⟨T, hT, hT2⟩ : ∃ T : Nat, (if t < 0 ∨ 500 < t then 0 else t) = T ∧ T < 4096 := by
    by_cases h : t < 0 ∨ 500 < t
    · exact ⟨0, by rw [if_pos h]; rfl, by omega⟩
    · exact ⟨t.toNat, by rw [if_neg h]; omega, by omega⟩
  have HP1 := Lib.hid (fun (w1 : World) (hb : Below w.heap.size w w1) => prop_some A [v] c T w1 hr1 hT2 ((hA1.below hb).more hb.size))
  simp only [key_one] at HP1
  have HA := Lib.hid hA
  have HV := Lib.hid hv
  have HR := Lib.hid hr
  have HT := Lib.hid hT
  clear hA hA1 hr hr1 hv hT
  unfold maxLen at hcm
  have e1 : decide (70 < l.length) = false := by simp; omega
  go_enter Try.func5, Try.ntmps5
  go_wp2_with fail
  refine HC.out.mono ?_; rintro e w1 ⟨rfl, hb1⟩
  go_wp2_with fail
  refine (HP0.out _ hb1).mono ?_; rintro e w2 ⟨rfl, hb2⟩
  have hb2' := hb1.trans (hb2.mono hb1.size)
  clear hb2 hb1
  obtain ⟨K, hK⟩ : ∃ K, keyAt l 0 = K := ⟨_, rfl⟩
  rw [hK]
  have HK := Lib.hid hK
  clear hK
  go_wp2_with fail
  go_loopw [7, 8] (fun best i wr => ∃ k : Nat, k ≤ l.length ∧ i = .int .i64 k ∧ best = .int .i64 (argK (pows l) k) ∧ Below w.heap.size w wr) (fun _ i _ => l.length - (intOf i).toNat)
  case atStart => exact ⟨0, by omega, rfl, rfl, hb2'⟩
  case round =>
    clear hb2'
    obtain ⟨k, hk, rfl, rfl, hbel⟩ := hrel
    have hz := hbel.size
    have hA' := HA.out.below hbel
    by_cases hlt : k < l.length
    · obtain ⟨b, off, ka, pa, rfl, hb, _, hca, hla⟩ := hA'.val hlt
      have hlw : argK (pows l) k < l.length := argK_lt _ _ (by omega) _ hk
      obtain ⟨b', off', kb, pb, hAe, hb', _, hcb, hlb⟩ := hA'.val hlw
      injection hAe with hAe
      injection hAe with h1 h2
      subst h1 h2
      have hstep : argK (pows l) (k + 1) = if pb < pa then k else argK (pows l) k := by
        have g1 : (pows l)[k]? = some pa := by simp [pows, hla]
        have g2 : (pows l)[argK (pows l) k]? = some pb := by
          show (l.map (·.2))[argK (pows l) k]? = some pb
          rw [List.getElem?_map, hlb]
          rfl
        rw [argK, getD_of g1, getD_of g2]
      have HS := Lib.hid hstep
      obtain ⟨wh, hwh⟩ : ∃ wh, argK (pows l) k = wh := ⟨_, rfl⟩
      rw [hwh] at hlw hcb HS ⊢
      clear hA' hla hlb hstep hwh
      go_wp2_with fail
      go_quiet (fail)
      by_cases hq : pb < pa
      · go_wp2_with fail
        go_roundw
        case rel => exact ⟨k + 1, by omega, by go_num, by rw [HS.out, if_pos hq], (by (first | assumption | (repeat (first | exact Below.refl _ _ | assumption | apply Below.drew | apply below_drewN | (refine Below.setCell ?_ (by (try simp) <;> omega) _) | (refine Below.alloc ?_ (by (try simp) <;> omega) _)))))⟩
        case measure => simp [intOf]; omega
      · go_wp2_with fail
        go_roundw
        case rel => exact ⟨k + 1, by omega, by go_num, by rw [HS.out, if_neg hq], (by (first | assumption | (repeat (first | exact Below.refl _ _ | assumption | apply Below.drew | apply below_drewN | (refine Below.setCell ?_ (by (try simp) <;> omega) _) | (refine Below.alloc ?_ (by (try simp) <;> omega) _)))))⟩
        case measure => simp [intOf]; omega
    · obtain rfl : k = l.length := by omega
      have hlw : argK (pows l) l.length < l.length := argK_lt _ _ (by omega) _ hk
      obtain ⟨b, off, kb, pb, rfl, hb, hcb, _, hlb⟩ := hA'.val hlw
      obtain ⟨b', off', k0, p0, hAe, hb', hc0, _, hl0⟩ := hA'.val (k := 0) (by omega)
      injection hAe with hAe
      injection hAe with h1 h2
      subst h1 h2
      have hKe : K = kb := by rw [← HK.out]; exact keyAt_zero hlb
      have hV0 : v.1 = k0 := by have := HV.out; rw [this] at hl0; simp at hl0; rw [hl0]
      have HB := Lib.hid (fun (w2 w3 : World) (h : Below wr.heap.size wr w2) (h' : Below w2.heap.size w2 w3) => And.intro (((h.trans (h'.mono h.size)).cell (p := ⟨b, off + argK (pows l) l.length * 2, none⟩) (by simp; omega)).trans hcb) (((h.trans (h'.mono h.size)).cell (p := ⟨b, off, none⟩) (by simp; omega)).trans (by simpa using hc0)))
      obtain ⟨wh, hwh⟩ : ∃ wh, argK (pows l) l.length = wh := ⟨_, rfl⟩
      rw [hwh] at hlw HB
      rw [hwh]
      rw [hV0] at HP1
      subst hKe
      clear hA' hlb hl0 hcb hc0 hwh hV0
      have e2 : (K == K) = true := by simp
      have e3 : (k0 == k0) = true := by simp
      by_cases hc : t < 0 ∨ 500 < t
      · have hT := HT.out
        rw [if_pos hc] at hT
        have hT0 : T = 0 := by omega
        subst hT0
        clear hT
        rcases hc with hc | hc
        · go_wp2_with fail
          refine (HP1.out _ hbel).mono ?_; rintro e w3 ⟨rfl, hb3⟩
          go_wp2_with fail
          refine (alive_any _).mono ?_; rintro e w4 ⟨rfl, hb4⟩
          obtain ⟨g1, g2⟩ := HB.out w3 w4 hb3 hb4
          go_wp2_with fail
          go_ret
          exact ⟨rfl, (hbel.trans (hb3.mono hbel.size)).trans (hb4.mono (Nat.le_trans hbel.size hb3.size))⟩
        · have hc' : ¬ t < 0 := by omega
          go_wp2_with fail
          refine (HP1.out _ hbel).mono ?_; rintro e w3 ⟨rfl, hb3⟩
          go_wp2_with fail
          refine (alive_any _).mono ?_; rintro e w4 ⟨rfl, hb4⟩
          obtain ⟨g1, g2⟩ := HB.out w3 w4 hb3 hb4
          go_wp2_with fail
          go_ret
          exact ⟨rfl, (hbel.trans (hb3.mono hbel.size)).trans (hb4.mono (Nat.le_trans hbel.size hb3.size))⟩
      · have hT := HT.out
        rw [if_neg hc] at hT
        subst hT
        have hc' : ¬ (500 : Int) < (T : Int) := by omega
        clear HT
        go_wp2_with fail
        refine (HP1.out _ hbel).mono ?_; rintro e w3 ⟨rfl, hb3⟩
        go_wp2_with fail
        refine (alive_any _).mono ?_; rintro e w4 ⟨rfl, hb4⟩
        obtain ⟨g1, g2⟩ := HB.out w3 w4 hb3 hb4
        go_wp2_with fail
        go_ret
        exact ⟨rfl, (hbel.trans (hb3.mono hbel.size)).trans (hb4.mono (Nat.le_trans hbel.size hb3.size))⟩

theorem walk (A : Option Addr) (l : List (Int × Int)) (c : Nat) (hl : l.length ≤ c) (hcm : c ≤ maxLen) {w : World} (hA : Sl w w.heap.size 2 A l.length (vCells l)) (hwf : ∀ x ∈ l, (Lit.int .u64 x.1).wf = true ∧ (Lit.int .i64 x.2).wf = true) (t : Int) (ht : (Lit.int .i64 t).wf = true) (_ : World) :
    Calls Try.prog 5 #[.slice A l.length c, .int .i64 t] w fun e w' => e = .returned (.bool true) ∧ Below w.heap.size w w' := by
  by_cases hr : rightV l = true
  · cases l with
    | nil => cases hr
    | cons v l' => exact walk_yes A v l' _ c t w rfl hl hcm hA hr
  · exact walk_not A l c t w (Nat.le_trans hl hcm) hA (.inr (by simpa using hr))

set_option maxRecDepth 100000 in
theorem lifted (os : Os) (started : os.Started) (H : Type) (enc : TypeId × Value → H) :
    ReturnsInHanded {} Try.checked os 5 .any (Rows.turnsFirstSpec.pre6 enc Try.prog Try.f5 Rows.turnsFirstRow.domain false) (Rows.turnsFirstSpec.post enc Try.prog Try.f5 false true false false) := by
  refine returnsInHanded_of_change (C := Try.checked) own started (by kernel_rfl) Try.func5
    (ChangeSpec.witness6 (enc := enc) (C := Try.checked) false ⟨#[], #[.slice none 0 0, .int .i64 0], []⟩ 8 (by kernel_rfl) (by kernel_rfl) (by kernel_rfl) (by kernel_rfl)) ?_
  intro W base args ds gs before hval0 hW hcnd _
  have hval : ∀ (j : Nat) t v, Try.f5.params[j]? = some t → args[j]? = some v → Value.okWide Try.prog W .any base t v := hval0
  have hW' := hW
  obtain ⟨p, q, hA0, hV, rfl, hfz, hnd⟩ := hW
  have hA : DataW.TrodAll enc Try.prog W 0 (fun _ => true) true Try.f5.params.toList args.toList ds p := hA0
  rw [Try.params5] at hA hval
  obtain ⟨v0, vs0, d0, ds0, p0, q0, hargs, rfl, rfl, h0, r0⟩ := trodAll_cons hA
  obtain ⟨v1, vs1, d1, ds1, p1, q1, rfl, rfl, rfl, h1, r1⟩ := trodAll_cons r0
  obtain ⟨rfl, rfl, rfl⟩ := trodAll_nil r1
  obtain rfl : args = #[v0, v1] := by cases args; simp_all
  obtain ⟨rfl, rfl⟩ := trodVars_none hV
  have k0 := h0
  have lt0 : ∀ x ∈ p0, x.block < W.heap.size := by obtain ⟨m, hm⟩ := k0; exact DataW.trod_lt m _ _ _ hm
  have k1 := h1
  have lt1 : ∀ x ∈ p1, x.block < W.heap.size := by obtain ⟨m, hm⟩ := k1; exact DataW.trod_lt m _ _ _ hm
  obtain ⟨A0, l0, c0, rfl, u0, m0, s0, w0⟩ := open_vals (hval 0 22 v0 rfl rfl) h0 lt0
  obtain ⟨a1, rfl, _, _, w1⟩ := open_int Try.underlying3 (hval 1 3 v1 rfl rfl) h1
  clear hA0 hval0
  refine (walk A0 l0 c0 u0 m0 s0 w0 a1 w1 W).mono fun e W' ⟨he, bel⟩ => ?_
  subst he
  exact ⟨_, rfl, _, _, _, [], _, [], hW', trodAll_mk1 (shut_bool Try.underlying4 _), (trodAll_cons_mk (Below.trod laidOut (by kernel_rfl) (of_decide_eq_true (by kernel_rfl)) k0 bel lt0) (trodAll_cons_mk (Below.trod laidOut (by kernel_rfl) (of_decide_eq_true (by kernel_rfl)) k1 bel lt1) trodAll_mk0)), rfl, bel.frame _, fun h => by cases h⟩

theorem over : Rows.turnsFirstRow.holds Try.pinned (OpenSpec.ofChange Rows.turnsFirstSpec) :=
  OpenClaim.holds_of_wide 5 Try.f5 rfl rfl rfl rfl rfl rfl rfl ⟨rfl, rfl, rfl, rfl, rfl⟩ rfl rfl rfl rfl rfl (by kernel_rfl) Try.func5 (by kernel_rfl)
    (of_decide_eq_true (by kernel_rfl)) (by unfold Func.isWrapper; first | (rw [if_pos (by decide +kernel)]; kernel_rfl) | (rw [if_neg (by decide +kernel)]; exact ⟨rfl, rfl⟩))
    (fun os started H enc _ => lifted os started H enc)

/-- The statement. -/
theorem proved : Rows.TurnsFirstSaid := over
#print axioms proved
end Go.Proofs.Ytfnhlallfgfkkaa.turnsFirst

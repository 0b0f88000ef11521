/- What this text proves: the statement ValsetRight: for every list of validators, all changes and any key the law returns true and leaves its arguments as they were. No condition. -/
import Derived.Test.YtlocapkofmpebaaRows
import Derived.Test.YtlocapkofmpebaaOpen
import Derived.Test.YtlocapkofmpebaaVsAlive
import Derived.Test.YtlocapkofmpebaaVsLawMath
namespace Go.Proofs.Ytlocapkofmpebaa.valsetRight
open Go.ChangeShapes Go.WideShapes Go.ChangeAt Go.RowKit
set_option linter.unusedVariables false
set_option linter.unusedSimpArgs false

set_option maxHeartbeats 1000000 in
theorem walk_long (A A' : Option Addr) (n n' c c' : Nat) (key : Int) (w : World) (h : 80 < n ∨ 80 < n') :
    Calls Try.prog 5 #[.slice A n c, .slice A' n' c', .int .u64 key] w fun e w' => e = .returned (.bool true) ∧ Below w.heap.size w w' := by
  by_cases h1 : 80 < n
  · clear h
    have e1 : decide (80 < (n : Int)) = true := by simp; omega
    clear h1
    go_enter Try.func5, Try.ntmps5
    go_wp2_with fail
    refine (alive_any _).mono ?_
    rintro e w1 ⟨rfl, hb1⟩
    go_wp2_with fail
    go_ret
    exact ⟨rfl, hb1⟩
  · have e1 : decide (80 < (n : Int)) = false := by simp; omega
    have e2 : decide (80 < (n' : Int)) = true := by simp; omega
    clear h1 h
    go_enter Try.func5, Try.ntmps5
    go_wp2_with fail
    refine (alive_any _).mono ?_
    rintro e w1 ⟨rfl, hb1⟩
    go_wp2_with fail
    go_ret
    exact ⟨rfl, hb1⟩

set_option maxHeartbeats 4000000 in
theorem walk_in (A A' : Option Addr) (l cs : VL) (c c' : Nat) (key : Int) (w : World) (hl : l.length ≤ 80) (hcs : cs.length ≤ 80) (hA : Sl w w.heap.size 2 A l.length (vCells l)) (hA' : Sl w w.heap.size 2 A' cs.length (vCells cs)) :
    Calls Try.prog 5 #[.slice A l.length c, .slice A' cs.length c', .int .u64 key] w fun e w' => e = .returned (.bool true) ∧ Below w.heap.size w w' := by
  have HU := Lib.hid (update_any A A' l cs c c' w (by omega) (by omega) hA hA')
  have HP := Lib.hid (fun (W : World) (hb : Below w.heap.size w W) => power_any A l c key W (by unfold maxLen; omega) ((hA.below hb).more hb.size))
  have HS := Lib.hid hA'
  obtain ⟨n, hn⟩ : ∃ n, l.length = n := ⟨_, rfl⟩
  obtain ⟨m, hm⟩ : ∃ m, cs.length = m := ⟨_, rfl⟩
  have HM := Lib.hid hm
  rw [hn] at HU HP ⊢ hl
  rw [hm] at HU HS ⊢ hcs
  have e1 : decide (80 < (n : Int)) = false := by simp; omega
  have e2 : decide (80 < (m : Int)) = false := by simp; omega
  obtain ⟨r, hr⟩ : ∃ r, updateV l cs = r := ⟨_, rfl⟩
  have HR := Lib.hid hr
  rw [hr] at HU
  obtain ⟨Q, hQ⟩ : ∃ Q, (fun (e : Ending) (w' : World) => e = .returned (.bool true) ∧ Below w.heap.size w w') = Q := ⟨_, rfl⟩
  have HQ := Lib.hid hQ
  rw [hQ]
  clear hA hA' hn hm hr hQ hl
  obtain ⟨a, en⟩ := r
  by_cases hz : en = 0
  · subst hz
    have hlw := law_right HR.out key
    have HL := Lib.hid hlw.2
    have HT := Lib.hid hlw.1
    clear hlw
    go_enter Try.func5, Try.ntmps5
    go_wp2_with fail
    with_reducible refine HU.out.mono ?_
    rintro e w1 ⟨v1, rfl, ho1, hb1⟩
    have L1 := Lib.hid hb1
    have O1 := Lib.hid ho1
    clear HU hb1 ho1 e1 e2
    go_wp2_with fail
    with_reducible refine (HP.out w1 L1.out).mono ?_
    rintro e w2 ⟨rfl, hb2⟩
    have L2 : Hid (Below w.heap.size w w2) := Lib.hid (L1.out.trans (hb2.mono L1.out.size))
    have O2 := Lib.hid (vown_bl O1.out hb2)
    clear HP hb2 O1 L1
    obtain ⟨p0, hp0⟩ : ∃ p0, powerV l key = p0 := ⟨_, rfl⟩
    rw [hp0] at HL ⊢
    clear hp0
    go_wp2_with fail
    go_loopw [9, 10] (fun s i wr => ∃ (k : Nat) (q : Int), k ≤ m ∧ i = .int .i64 k ∧ s = .int .i64 q ∧ wantV p0 cs key = wantV q (cs.drop k) key ∧ Below w.heap.size w wr ∧ VOwn wr w.heap.size v1 a) (fun _ i _ => m - (intOf i).toNat)
    case atStart => exact ⟨0, p0, by omega, rfl, rfl, by simp, L2.out, O2.out⟩
    case round =>
      obtain ⟨k, q, hk, rfl, rfl, hwant, hbel, hown⟩ := hrel
      have LR := Lib.hid hbel
      have OR := Lib.hid hown
      have HW := Lib.hid hwant
      have hz := hbel.size
      clear hbel hown hwant
      by_cases hlt : k < m
      · obtain ⟨b, off, ke, pe, rfl, hb, hck, hcp, hlk⟩ := (sl_len HM.out (HS.out.below LR.out)).val (k := k) (by rw [HM.out]; exact hlt)
        have hw2 := HW.out
        rw [drop_at hlk, wantV] at hw2
        have HW2 := Lib.hid hw2
        clear hlk hw2 HW
        by_cases he : ke = key
        · have he' : (ke == key) = true := by simpa using he
          have hw3 := HW2.out
          rw [if_pos he] at hw3
          have HW3 := Lib.hid hw3
          clear he hw3 HW2
          go_wp2_with fail
          go_roundw
          case rel => exact ⟨k+1, pe, by omega, by go_num, rfl, HW3.out, LR.out, OR.out⟩
          case measure => simp [intOf]; omega
        · have he' : (ke == key) = false := by simpa using he
          have hw3 := HW2.out
          rw [if_neg he] at hw3
          have HW3 := Lib.hid hw3
          clear he hw3 HW2
          go_wp2_with fail
          go_roundw
          case rel => exact ⟨k+1, q, by omega, by go_num, rfl, HW3.out, LR.out, OR.out⟩
          case measure => simp [intOf]; omega
      · obtain rfl : k = m := by omega
        have hq : wantV p0 cs key = q := by
          have := HW.out
          rw [← HM.out, List.drop_length] at this
          exact this
        have HQq : Hid (powerV a key = q) := Lib.hid (HL.out.trans hq)
        clear HW hq HL
        obtain ⟨A2, c2, hve, _, _, hsl⟩ := own_sl OR.out
        subst hve
        obtain ⟨na, hna⟩ : ∃ na, a.length = na := ⟨_, rfl⟩
        have hal : a.length ≤ 64 := right_len HT.out
        have HR2 := Lib.hid (fun (W : World) (hb : Below wr.heap.size wr W) => right_any A2 a c2 W (by unfold maxLen; omega) ((hsl.below hb).more hb.size))
        have HP2 := Lib.hid (fun (W : World) (hb : Below wr.heap.size wr W) => power_any A2 a c2 key W (by unfold maxLen; omega) ((hsl.below hb).more hb.size))
        rw [HT.out, hna] at HR2
        rw [HQq.out, hna] at HP2
        rw [hna] at OR ⊢
        clear hsl hna hal HQq
        go_wp2_with fail
        with_reducible refine (alive_any _).mono ?_
        rintro e w4 ⟨rfl, hb4⟩
        have L4 := Lib.hid hb4
        clear hb4
        go_wp2_with fail
        with_reducible refine (HR2.out w4 L4.out).mono ?_
        rintro e w5 ⟨rfl, hb5⟩
        have L5 : Hid (Below wr.heap.size wr w5) := Lib.hid (L4.out.trans (hb5.mono L4.out.size))
        clear hb5 HR2
        go_wp2_with fail
        with_reducible refine (HP2.out w5 L5.out).mono ?_
        rintro e w6 ⟨rfl, hb6⟩
        have L6 : Hid (Below w.heap.size w w6) := Lib.hid (LR.out.trans ((L5.out.trans (hb6.mono L5.out.size)).mono LR.out.size))
        clear hb6 HP2
        have e9 : (q == q) = true := by simp
        go_wp2_with fail
        rw [← HQ.out]
        exact ⟨by simp, L6.out⟩
  · have hnil : a = [] := by
      have := updateV_bad (l := l) (cs := cs) (by rw [HR.out]; exact hz)
      rw [HR.out] at this
      exact this
    subst hnil
    have e0 : (en == 0) = false := by simpa using hz
    clear hz
    go_enter Try.func5, Try.ntmps5
    go_wp2_with fail
    with_reducible refine HU.out.mono ?_
    rintro e w1 ⟨v1, rfl, ho1, hb1⟩
    obtain ⟨A2, c2, hve, _, _, hsl⟩ := own_sl ho1
    have L1 := Lib.hid hb1
    rw [show ([] : VL).length = 0 from rfl] at hve
    subst hve
    clear HU hb1 ho1 e1 e2 hsl
    go_wp2_with fail
    with_reducible refine (alive_any _).mono ?_
    rintro e w4 ⟨rfl, hb4⟩
    have L4 : Hid (Below w.heap.size w w4) := Lib.hid (L1.out.trans (hb4.mono L1.out.size))
    clear hb4
    go_wp2_with fail
    rw [← HQ.out]
    exact ⟨rfl, L4.out⟩

theorem walk (A : Option Addr) (l : VL) (c : Nat) (hlc : l.length ≤ c) (hcm : c ≤ maxLen) {w : World} (hA : Sl w w.heap.size 2 A l.length (vCells l)) (hw : ∀ x ∈ l, (Lit.int .u64 x.1).wf = true ∧ (Lit.int .i64 x.2).wf = true)
    (A' : Option Addr) (cs : VL) (c' : Nat) (hlc' : cs.length ≤ c') (hcm' : c' ≤ maxLen) (hA' : Sl w w.heap.size 2 A' cs.length (vCells cs)) (hw' : ∀ x ∈ cs, (Lit.int .u64 x.1).wf = true ∧ (Lit.int .i64 x.2).wf = true)
    (key : Int) (hk : (Lit.int .u64 key).wf = true) (_ : World) :
    Calls Try.prog 5 #[.slice A l.length c, .slice A' cs.length c', .int .u64 key] w fun e w' => e = .returned (.bool true) ∧ Below w.heap.size w w' := by
  by_cases h : 80 < l.length ∨ 80 < cs.length
  · exact walk_long A A' _ _ c c' key w h
  · exact walk_in A A' l cs c c' key w (by omega) (by omega) hA hA'

set_option maxRecDepth 100000 in
theorem lifted (os : Os) (started : os.Started) (H : Type) (enc : TypeId × Value → H) :
    ReturnsInHanded {} Try.checked os 5 .any (Rows.valsetRightSpec.pre6 enc Try.prog Try.f5 Rows.valsetRightRow.domain false) (Rows.valsetRightSpec.post enc Try.prog Try.f5 false true false false) := by
  refine returnsInHanded_of_change (C := Try.checked) own started (by kernel_rfl) Try.func5
    (ChangeSpec.witness6 (enc := enc) (C := Try.checked) false ⟨#[], #[.slice none 0 0, .slice none 0 0, .int .u64 0], []⟩ 8 (by kernel_rfl) (by kernel_rfl) (by kernel_rfl) (by kernel_rfl)) ?_
  intro W base args ds gs before hval0 hW hcnd _
  have hval : ∀ (j : Nat) t v, Try.f5.params[j]? = some t → args[j]? = some v → Value.okWide Try.prog W .any base t v := hval0
  have hW' := hW
  obtain ⟨p, q, hA0, hV, rfl, hfz, hnd⟩ := hW
  have hA : DataW.TrodAll enc Try.prog W 0 (fun _ => true) true Try.f5.params.toList args.toList ds p := hA0
  rw [Try.params5] at hA hval
  obtain ⟨v0, vs0, d0, ds0, p0, q0, hargs, rfl, rfl, h0, r0⟩ := trodAll_cons hA
  obtain ⟨v1, vs1, d1, ds1, p1, q1, rfl, rfl, rfl, h1, r1⟩ := trodAll_cons r0
  obtain ⟨v2, vs2, d2, ds2, p2, q2, rfl, rfl, rfl, h2, r2⟩ := trodAll_cons r1
  obtain ⟨rfl, rfl, rfl⟩ := trodAll_nil r2
  obtain rfl : args = #[v0, v1, v2] := by cases args; simp_all
  obtain ⟨rfl, rfl⟩ := trodVars_none hV
  have k0 := h0
  have lt0 : ∀ x ∈ p0, x.block < W.heap.size := by obtain ⟨m, hm⟩ := k0; exact DataW.trod_lt m _ _ _ hm
  have k1 := h1
  have lt1 : ∀ x ∈ p1, x.block < W.heap.size := by obtain ⟨m, hm⟩ := k1; exact DataW.trod_lt m _ _ _ hm
  have k2 := h2
  have lt2 : ∀ x ∈ p2, x.block < W.heap.size := by obtain ⟨m, hm⟩ := k2; exact DataW.trod_lt m _ _ _ hm
  obtain ⟨A0, l0, c0, rfl, u0, m0, s0, w0⟩ := open_vals (hval 0 22 v0 rfl rfl) h0 lt0
  obtain ⟨A1, l1, c1, rfl, u1, m1, s1, w1⟩ := open_vals (hval 1 22 v1 rfl rfl) h1 lt1
  obtain ⟨a2, rfl, _, _, w2⟩ := open_int Try.underlying24 (hval 2 24 v2 rfl rfl) h2
  clear hA0 hval0
  refine (walk A0 l0 c0 u0 m0 s0 w0 A1 l1 c1 u1 m1 s1 w1 a2 w2 W).mono fun e W' ⟨he, bel⟩ => ?_
  subst he
  exact ⟨_, rfl, _, _, _, [], _, [], hW', trodAll_mk1 (shut_bool Try.underlying4 _), (trodAll_cons_mk (Below.trod laidOut (by kernel_rfl) (of_decide_eq_true (by kernel_rfl)) k0 bel lt0) (trodAll_cons_mk (Below.trod laidOut (by kernel_rfl) (of_decide_eq_true (by kernel_rfl)) k1 bel lt1) (trodAll_cons_mk (Below.trod laidOut (by kernel_rfl) (of_decide_eq_true (by kernel_rfl)) k2 bel lt2) trodAll_mk0))), rfl, bel.frame _, fun h => by cases h⟩

theorem over : Rows.valsetRightRow.holds Try.pinned (OpenSpec.ofChange Rows.valsetRightSpec) :=
  OpenClaim.holds_of_wide 5 Try.f5 rfl rfl rfl rfl rfl rfl rfl ⟨rfl, rfl, rfl, rfl, rfl⟩ rfl rfl rfl rfl rfl (by kernel_rfl) Try.func5 (by kernel_rfl)
    (of_decide_eq_true (by kernel_rfl)) (by unfold Func.isWrapper; first | (rw [if_pos (by decide +kernel)]; kernel_rfl) | (rw [if_neg (by decide +kernel)]; exact ⟨rfl, rfl⟩))
    (fun os started H enc _ => lifted os started H enc)

/-- The statement. -/
theorem proved : Rows.ValsetRightSaid := over
#print axioms proved
end Go.Proofs.Ytlocapkofmpebaa.valsetRight

/- What this text proves: the statement ValsetOrder: for every list of validators and any two changes the law returns true and leaves its arguments as they were. No condition. -/
import Derived.Test.YtlocapkofmpebaaRows
import Derived.Test.YtlocapkofmpebaaOpenVal
import Derived.Test.YtlocapkofmpebaaVsCtx
namespace Go.Proofs.Ytlocapkofmpebaa.valsetOrder
open Go.ChangeShapes Go.WideShapes Go.ChangeAt Go.RowKit
set_option linter.unusedVariables false
set_option linter.unusedSimpArgs false

set_option maxHeartbeats 1000000 in
theorem walk_not (A : Option Addr) (l : VL) (n c : Nat) (k p k2 p2 : Int) (w : World) (hn : l.length = n) (hA : Sl w w.heap.size 2 A l.length (vCells l)) (h : 80 < n ∨ k = k2) (Q : Ending → World → Prop) (hQ : ∀ w', Below w.heap.size w w' → Q (.returned (.bool true)) w') :
    Calls Try.prog 4 #[.slice A n c, .agg #[.int .u64 k, .int .i64 p], .agg #[.int .u64 k2, .int .i64 p2]] w Q := by
  have HQ := Lib.hid hQ
  clear hQ
  obtain ⟨n1, hn1⟩ : ∃ n1, w.heap.size = n1 := ⟨_, rfl⟩
  obtain ⟨W1, hW1⟩ : ∃ W1, w.alloc (.cells #[.int .u64 k, .int .i64 p] 26) = W1 := ⟨_, rfl⟩
  obtain ⟨n2, hn2⟩ : ∃ n2, W1.heap.size = n2 := ⟨_, rfl⟩
  obtain ⟨W2, hW2⟩ : ∃ W2, W1.alloc (.cells #[.int .u64 k2, .int .i64 p2] 26) = W2 := ⟨_, rfl⟩
  have C1 := Lib.hid (Ctx.new hA hW1 hn1 hW2 hn2)
  clear hA hn
  have c0 : W2.cell? ⟨n1, 0, none⟩ = some (.int .u64 k) := C1.out.k1.cell 0
  have c2 : W2.cell? ⟨n2, 0, none⟩ = some (.int .u64 k2) := C1.out.k2.cell 0
  by_cases h1 : 80 < n
  · have e1 : decide (80 < (n : Int)) = true := by simp; omega
    clear h h1
    go_enter Try.func4, Try.ntmps4
    go_wp2_with fail
    clear hn1 hW1 hn2 hW2
    with_reducible refine (alive_any _).mono ?_
    rintro e w1 ⟨rfl, hb1⟩
    go_wp2_with fail
    exact HQ.out _ (C1.out.step hb1).bel
  · have e1 : decide (80 < (n : Int)) = false := by simp; omega
    have e2 : (k == k2) = true := by simp; omega
    clear h1 h
    go_enter Try.func4, Try.ntmps4
    go_wp2_with fail
    clear hn1 hW1 hn2 hW2
    with_reducible refine (alive_any _).mono ?_
    rintro e w1 ⟨rfl, hb1⟩
    go_wp2_with fail
    exact HQ.out _ (C1.out.step hb1).bel

set_option maxHeartbeats 8000000 in
theorem walk_in (A : Option Addr) (l : VL) (n c : Nat) (k p k2 p2 : Int) (w : World) (hn : l.length = n) (hl : n ≤ 80) (hA : Sl w w.heap.size 2 A l.length (vCells l)) (hk : k ≠ k2) (Q : Ending → World → Prop) (hQ : ∀ w', Below w.heap.size w w' → Q (.returned (.bool true)) w') :
    Calls Try.prog 4 #[.slice A n c, .agg #[.int .u64 k, .int .i64 p], .agg #[.int .u64 k2, .int .i64 p2]] w Q := by
  have HQ := Lib.hid hQ
  clear hQ
  obtain ⟨n1, hn1⟩ : ∃ n1, w.heap.size = n1 := ⟨_, rfl⟩
  obtain ⟨W1, hW1⟩ : ∃ W1, w.alloc (.cells #[.int .u64 k, .int .i64 p] 26) = W1 := ⟨_, rfl⟩
  obtain ⟨n2, hn2⟩ : ∃ n2, W1.heap.size = n2 := ⟨_, rfl⟩
  obtain ⟨W2, hW2⟩ : ∃ W2, W1.alloc (.cells #[.int .u64 k2, .int .i64 p2] 26) = W2 := ⟨_, rfl⟩
  have C1 := Lib.hid (Ctx.new hA hW1 hn1 hW2 hn2)
  have HL : Hid (n ≤ 1000) := Lib.hid (by omega)
  have HK : Hid (k ≠ k2) := Lib.hid hk
  have HU1 := Lib.hid (fun W hs => upd_two A l n c hn HL.out k p k2 p2 W hs)
  have HU2 := Lib.hid (fun W hs => upd_two A l n c hn HL.out k2 p2 k p W hs)
  have HU3 := Lib.hid (fun W hs => upd_one A l n c hn HL.out k p W hs)
  obtain ⟨r, hr⟩ : ∃ r, updateV l [(k, p), (k2, p2)] = r := ⟨_, rfl⟩
  obtain ⟨s, hs⟩ : ∃ s, updateV l [(k2, p2), (k, p)] = s := ⟨_, rfl⟩
  obtain ⟨u, hu⟩ : ∃ u, updateV l [(k, p)] = u := ⟨_, rfl⟩
  rw [hr] at HU1
  rw [hs] at HU2
  rw [hu] at HU3
  have HR := Lib.hid hr
  have HS := Lib.hid hs
  have HV := Lib.hid hu
  have e1 : decide (80 < (n : Int)) = false := by simp; omega
  have e2 : (k == k2) = false := by simpa using hk
  clear hA hn hl hr hs hu
  have c0 : W2.cell? ⟨n1, 0, none⟩ = some (.int .u64 k) := C1.out.k1.cell 0
  have c1 : W2.cell? ⟨n1, 1, none⟩ = some (.int .i64 p) := C1.out.k1.cell 1
  have c2 : W2.cell? ⟨n2, 0, none⟩ = some (.int .u64 k2) := C1.out.k2.cell 0
  have c3 : W2.cell? ⟨n2, 1, none⟩ = some (.int .i64 p2) := C1.out.k2.cell 1
  go_enter Try.func4, Try.ntmps4
  go_wp2_with fail
  clear hn1 hW1 hn2 hW2 c0 c1 c2 c3 e1 e2 hk
  with_reducible refine (HU1.out W2 C1.out.sl).mono ?_
  rintro e w3 ⟨v3, rfl, ho3, hb⟩
  have C3 := Lib.hid (C1.out.step hb)
  have O3 := Lib.hid ho3
  clear hb ho3 C1 HU1
  have c0 : w3.cell? ⟨n1, 0, none⟩ = some (.int .u64 k) := C3.out.k1.cell 0
  have c1 : w3.cell? ⟨n1, 1, none⟩ = some (.int .i64 p) := C3.out.k1.cell 1
  have c2 : w3.cell? ⟨n2, 0, none⟩ = some (.int .u64 k2) := C3.out.k2.cell 0
  have c3 : w3.cell? ⟨n2, 1, none⟩ = some (.int .i64 p2) := C3.out.k2.cell 1
  go_wp2_with fail
  clear c0 c1 c2 c3
  with_reducible refine (HU2.out w3 C3.out.sl).mono ?_
  rintro e w4 ⟨v4, rfl, ho4, hb⟩
  have C4 := Lib.hid (C3.out.step hb)
  have O3' := Lib.hid (vown_bl O3.out hb)
  have O4 := Lib.hid ho4
  clear hb ho4 C3 HU2 O3
  obtain ⟨x, en⟩ := r
  obtain ⟨y, fn⟩ := s
  by_cases hz : en = 0
  · by_cases hz2 : fn = 0
    · subst hz hz2
      have hxy := law_order (a := (k, p)) (b := (k2, p2)) HK.out HR.out HS.out
      subst hxy
      have hlen := upd_len HR.out
      obtain ⟨nx, hnx⟩ : ∃ nx, x.length = nx := ⟨_, rfl⟩
      have HNX := Lib.hid hnx
      have HXL : Hid (nx ≤ 1000) := Lib.hid (by omega)
      obtain ⟨A3, d3, hve, hs3⟩ := own_at O3'.out
      have S3 := Lib.hid hs3
      rw [hnx] at hve
      subst hve
      obtain ⟨A4, d4, hve, hs4⟩ := own_at O4.out
      rw [hnx] at hve
      subst hve
      have HS4 := Lib.hid (same_at A3 A4 x x nx nx d3 d4 HNX.out HNX.out HXL.out HXL.out w4 hs3 hs4)
      rw [decide_eq_true rfl] at HS4
      clear hs3 hs4 O3' O4 hlen hnx HS
      go_wp2_with fail
      with_reducible refine (HS4.out).mono ?_
      rintro e w5 ⟨rfl, hb⟩
      have C5 := Lib.hid (C4.out.step hb)
      have S5 := Lib.hid (sl_bl S3.out hb)
      clear hb C4 S3 HS4
      have c0 : w5.cell? ⟨n1, 0, none⟩ = some (.int .u64 k) := C5.out.k1.cell 0
      have c1 : w5.cell? ⟨n1, 1, none⟩ = some (.int .i64 p) := C5.out.k1.cell 1
      go_wp2_with fail
      clear c0 c1
      with_reducible refine (HU3.out w5 C5.out.sl).mono ?_
      rintro e w6 ⟨v6, rfl, ho6, hb⟩
      have C6 := Lib.hid (C5.out.step hb)
      have S6 := Lib.hid (sl_bl S5.out hb)
      have O6 := Lib.hid ho6
      clear hb ho6 C5 S5 HU3
      obtain ⟨z, gn⟩ := u
      by_cases hz3 : gn = 0
      · subst hz3
        have h9 := law_one HR.out HV.out
        have hlz := upd_len HV.out
        obtain ⟨nz, hnz⟩ : ∃ nz, z.length = nz := ⟨_, rfl⟩
        obtain ⟨A6, d6, hve, hs6⟩ := own_at O6.out
        have S7 := Lib.hid hs6
        rw [hnz] at hve
        subst hve
        have HU4 := Lib.hid (fun W hs => upd_one A6 z nz d6 hnz (by omega) k2 p2 W hs)
        rw [h9] at HU4
        have c2 : w6.cell? ⟨n2, 0, none⟩ = some (.int .u64 k2) := C6.out.k2.cell 0
        have c3 : w6.cell? ⟨n2, 1, none⟩ = some (.int .i64 p2) := C6.out.k2.cell 1
        clear hs6 O6 h9 hlz hnz
        go_wp2_with fail
        clear c2 c3
        with_reducible refine (HU4.out w6 S7.out).mono ?_
        rintro e w7 ⟨v7, rfl, ho7, hb⟩
        have C7 := Lib.hid (C6.out.step hb)
        have S8 := Lib.hid (sl_bl S6.out hb)
        have O7 := Lib.hid ho7
        clear hb ho7 C6 S6 S7 HU4
        obtain ⟨A7, d7, hve, hs7⟩ := own_at O7.out
        have HS7 := Lib.hid (same_at A7 A3 x x nx nx d7 d3 HNX.out HNX.out HXL.out HXL.out w7 hs7 S8.out)
        rw [decide_eq_true rfl] at HS7
        simp only [HNX.out] at hve
        subst hve
        clear hs7 O7
        go_wp2_with fail
        with_reducible refine (HS7.out).mono ?_
        rintro e w8 ⟨rfl, hb⟩
        have C8 := Lib.hid (C7.out.step hb)
        clear hb C7 HS7
        go_wp2_with fail
        with_reducible refine (alive_any _).mono ?_
        rintro e w9 ⟨rfl, hb⟩
        have C9 := Lib.hid (C8.out.step hb)
        clear hb C8
        go_wp2_with fail
        exact HQ.out _ C9.out.bel
      · have e0 : (gn == 0) = false := by simpa using hz3
        go_wp2_with fail
        with_reducible refine (alive_any _).mono ?_
        rintro e w9 ⟨rfl, hb⟩
        have C9 := Lib.hid (C6.out.step hb)
        clear hb C6
        go_wp2_with fail
        exact HQ.out _ C9.out.bel
    · subst hz
      have e0 : (fn == 0) = false := by simpa using hz2
      go_wp2_with fail
      with_reducible refine (alive_any _).mono ?_
      rintro e w9 ⟨rfl, hb⟩
      have C9 := Lib.hid (C4.out.step hb)
      clear hb C4
      go_wp2_with fail
      exact HQ.out _ C9.out.bel
  · have e0 : (en == 0) = false := by simpa using hz
    go_wp2_with fail
    with_reducible refine (alive_any _).mono ?_
    rintro e w9 ⟨rfl, hb⟩
    have C9 := Lib.hid (C4.out.step hb)
    clear hb C4
    go_wp2_with fail
    exact HQ.out _ C9.out.bel

theorem walk (A : Option Addr) (l : VL) (c : Nat) (hlc : l.length ≤ c) (hcm : c ≤ maxLen) {w : World} (hA : Sl w w.heap.size 2 A l.length (vCells l)) (hw : ∀ x ∈ l, (Lit.int .u64 x.1).wf = true ∧ (Lit.int .i64 x.2).wf = true)
    (k p : Int) (hk : (Lit.int .u64 k).wf = true) (hp : (Lit.int .i64 p).wf = true) (k2 p2 : Int) (hk2 : (Lit.int .u64 k2).wf = true) (hp2 : (Lit.int .i64 p2).wf = true) (_ : World) :
    Calls Try.prog 4 #[.slice A l.length c, .agg #[.int .u64 k, .int .i64 p], .agg #[.int .u64 k2, .int .i64 p2]] w fun e w' => e = .returned (.bool true) ∧ Below w.heap.size w w' := by
  by_cases h : 80 < l.length ∨ k = k2
  · exact walk_not A l _ c k p k2 p2 w rfl hA h _ (fun w' hb => ⟨rfl, hb⟩)
  · exact walk_in A l _ c k p k2 p2 w rfl (by omega) hA (by omega) _ (fun w' hb => ⟨rfl, hb⟩)

set_option maxRecDepth 100000 in
theorem lifted (os : Os) (started : os.Started) (H : Type) (enc : TypeId × Value → H) :
    ReturnsInHanded {} Try.checked os 4 .any (Rows.valsetOrderSpec.pre6 enc Try.prog Try.f4 Rows.valsetOrderRow.domain false) (Rows.valsetOrderSpec.post enc Try.prog Try.f4 false true false false) := by
  refine returnsInHanded_of_change (C := Try.checked) own started (by kernel_rfl) Try.func4
    (ChangeSpec.witness6 (enc := enc) (C := Try.checked) false ⟨#[], #[.slice none 0 0, .agg #[.int .u64 0, .int .i64 0], .agg #[.int .u64 0, .int .i64 0]], []⟩ 8 (by kernel_rfl) (by kernel_rfl) (by kernel_rfl) (by kernel_rfl)) ?_
  intro W base args ds gs before hval0 hW hcnd _
  have hval : ∀ (j : Nat) t v, Try.f4.params[j]? = some t → args[j]? = some v → Value.okWide Try.prog W .any base t v := hval0
  have hW' := hW
  obtain ⟨p, q, hA0, hV, rfl, hfz, hnd⟩ := hW
  have hA : DataW.TrodAll enc Try.prog W 0 (fun _ => true) true Try.f4.params.toList args.toList ds p := hA0
  rw [Try.params4] at hA hval
  obtain ⟨v0, vs0, d0, ds0, p0, q0, hargs, rfl, rfl, h0, r0⟩ := trodAll_cons hA
  obtain ⟨v1, vs1, d1, ds1, p1, q1, rfl, rfl, rfl, h1, r1⟩ := trodAll_cons r0
  obtain ⟨v2, vs2, d2, ds2, p2, q2, rfl, rfl, rfl, h2, r2⟩ := trodAll_cons r1
  obtain ⟨rfl, rfl, rfl⟩ := trodAll_nil r2
  obtain rfl : args = #[v0, v1, v2] := by cases args; simp_all
  obtain ⟨rfl, rfl⟩ := trodVars_none hV
  have k0 := h0
  have lt0 : ∀ x ∈ p0, x.block < W.heap.size := by obtain ⟨m, hm⟩ := k0; exact DataW.trod_lt m _ _ _ hm
  have k1 := h1
  have lt1 : ∀ x ∈ p1, x.block < W.heap.size := by obtain ⟨m, hm⟩ := k1; exact DataW.trod_lt m _ _ _ hm
  have k2 := h2
  have lt2 : ∀ x ∈ p2, x.block < W.heap.size := by obtain ⟨m, hm⟩ := k2; exact DataW.trod_lt m _ _ _ hm
  obtain ⟨A0, l0, c0, rfl, u0, m0, s0, w0⟩ := open_vals (hval 0 22 v0 rfl rfl) h0 lt0
  obtain ⟨a1, b1, rfl, w1, x1⟩ := open_val (hval 1 26 v1 rfl rfl) h1
  obtain ⟨a2, b2, rfl, w2, x2⟩ := open_val (hval 2 26 v2 rfl rfl) h2
  clear hA0 hval0
  refine (walk A0 l0 c0 u0 m0 s0 w0 a1 b1 w1 x1 a2 b2 w2 x2 W).mono fun e W' ⟨he, bel⟩ => ?_
  subst he
  exact ⟨_, rfl, _, _, _, [], _, [], hW', trodAll_mk1 (shut_bool Try.underlying4 _), (trodAll_cons_mk (Below.trod laidOut (by kernel_rfl) (of_decide_eq_true (by kernel_rfl)) k0 bel lt0) (trodAll_cons_mk (Below.trod laidOut (by kernel_rfl) (of_decide_eq_true (by kernel_rfl)) k1 bel lt1) (trodAll_cons_mk (Below.trod laidOut (by kernel_rfl) (of_decide_eq_true (by kernel_rfl)) k2 bel lt2) trodAll_mk0))), rfl, bel.frame _, fun h => by cases h⟩

theorem over : Rows.valsetOrderRow.holds Try.pinned (OpenSpec.ofChange Rows.valsetOrderSpec) :=
  OpenClaim.holds_of_wide 4 Try.f4 rfl rfl rfl rfl rfl rfl rfl ⟨rfl, rfl, rfl, rfl, rfl⟩ rfl rfl rfl rfl rfl (by kernel_rfl) Try.func4 (by kernel_rfl)
    (of_decide_eq_true (by kernel_rfl)) (by unfold Func.isWrapper; first | (rw [if_pos (by decide +kernel)]; kernel_rfl) | (rw [if_neg (by decide +kernel)]; exact ⟨rfl, rfl⟩))
    (fun os started H enc _ => lifted os started H enc)

/-- The statement. -/
theorem proved : Rows.ValsetOrderSaid := over
#print axioms proved
end Go.Proofs.Ytlocapkofmpebaa.valsetOrder

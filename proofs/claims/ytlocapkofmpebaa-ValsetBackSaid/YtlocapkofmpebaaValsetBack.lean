/- What this text proves: the statement ValsetBack: for every list of validators and any validator the law returns true and leaves its arguments as they were. No condition. -/
import Derived.Test.YtlocapkofmpebaaRows
import Derived.Test.YtlocapkofmpebaaOpenVal
import Derived.Test.YtlocapkofmpebaaVsCtx
namespace Go.Proofs.Ytlocapkofmpebaa.valsetBack
open Go.ChangeShapes Go.WideShapes Go.ChangeAt Go.RowKit
set_option linter.unusedVariables false
set_option linter.unusedSimpArgs false

set_option maxHeartbeats 1000000 in
theorem walk_not (A : Option Addr) (l : VL) (c : Nat) (k p : Int) (w : World) (hlm : l.length ≤ maxLen) (hA : Sl w w.heap.size 2 A l.length (vCells l)) (h : 80 < l.length ∨ powerV l k ≠ 0 ∨ p = 0) (Q : Ending → World → Prop) (hQ : ∀ w', Below w.heap.size w w' → Q (.returned (.bool true)) w') :
    Calls Try.prog 7 #[.slice A l.length c, .agg #[.int .u64 k, .int .i64 p]] w Q := by
  have HQ := Lib.hid hQ
  clear hQ
  obtain ⟨n1, hn1⟩ : ∃ n1, w.heap.size = n1 := ⟨_, rfl⟩
  obtain ⟨W1, hW1⟩ : ∃ W1, w.alloc (.cells #[.int .u64 k, .int .i64 p] 26) = W1 := ⟨_, rfl⟩
  have C1 := Lib.hid (Ctx.one hA hW1 hn1)
  have HP := Lib.hid (power_any A l c k W1 hlm C1.out.sl)
  obtain ⟨n, hn⟩ : ∃ n, l.length = n := ⟨_, rfl⟩
  obtain ⟨q, hq⟩ : ∃ q, powerV l k = q := ⟨_, rfl⟩
  rw [hn] at HP ⊢ h
  rw [hq] at HP h
  clear hA hlm hn hq
  have c0 : W1.cell? ⟨n1, 0, none⟩ = some (.int .u64 k) := C1.out.k1.cell 0
  by_cases h1 : 80 < n
  · have e1 : decide (80 < (n : Int)) = true := by simp; omega
    clear h h1
    go_enter Try.func7, Try.ntmps7
    go_wp2_with fail
    with_reducible refine (alive_any _).mono ?_
    rintro e w1 ⟨rfl, hb1⟩
    clear hn1 hW1
    go_wp2_with fail
    exact HQ.out _ (C1.out.step hb1).bel
  · have e1 : decide (80 < (n : Int)) = false := by simp; omega
    clear h1
    by_cases h2 : q = 0
    · have h3 : p = 0 := by rcases h with h | h | h; · simp at e1; omega
                            · exact absurd h2 h
                            · exact h
      subst h2
      have e3 : (p == 0) = true := by simpa using h3
      clear h h3
      go_enter Try.func7, Try.ntmps7
      go_wp2_with fail
      clear hn1 hW1
      with_reducible refine (HP.out).mono ?_
      rintro e w1 ⟨rfl, hb1⟩
      have C2 := Lib.hid (C1.out.step hb1)
      clear hb1 C1 c0
      have c1 : w1.cell? ⟨n1, 1, none⟩ = some (.int .i64 p) := C2.out.k1.cell 1
      go_wp2_with fail
      with_reducible refine (alive_any _).mono ?_
      rintro e w2 ⟨rfl, hb2⟩
      go_wp2_with fail
      exact HQ.out _ (C2.out.step hb2).bel
    · have e2 : (q == 0) = false := by simpa using h2
      clear h
      go_enter Try.func7, Try.ntmps7
      go_wp2_with fail
      clear hn1 hW1
      with_reducible refine (HP.out).mono ?_
      rintro e w1 ⟨rfl, hb1⟩
      have C2 := Lib.hid (C1.out.step hb1)
      clear hb1 C1 c0
      go_wp2_with fail
      with_reducible refine (alive_any _).mono ?_
      rintro e w2 ⟨rfl, hb2⟩
      go_wp2_with fail
      exact HQ.out _ (C2.out.step hb2).bel

set_option maxHeartbeats 4000000 in
theorem walk_in (A : Option Addr) (l : VL) (c : Nat) (k p : Int) (w : World) (hl : l.length ≤ 80) (hA : Sl w w.heap.size 2 A l.length (vCells l)) (hp0 : powerV l k = 0) (hpp : p ≠ 0) :
    Calls Try.prog 7 #[.slice A l.length c, .agg #[.int .u64 k, .int .i64 p]] w fun e w' => e = .returned (.bool true) ∧ Below w.heap.size w w' := by
  obtain ⟨n1, hn1⟩ : ∃ n1, w.heap.size = n1 := ⟨_, rfl⟩
  obtain ⟨W1, hW1⟩ : ∃ W1, w.alloc (.cells #[.int .u64 k, .int .i64 p] 26) = W1 := ⟨_, rfl⟩
  have C1 := Lib.hid (Ctx.one hA hW1 hn1)
  have HP := Lib.hid (power_any A l c k W1 (by unfold maxLen; omega) C1.out.sl)
  obtain ⟨n, hn⟩ : ∃ n, l.length = n := ⟨_, rfl⟩
  rw [hn] at HP ⊢ hl
  rw [hp0] at HP
  have HN := Lib.hid hn
  have HP0 := Lib.hid hp0
  have HPP := Lib.hid hpp
  have e1 : decide (80 < (n : Int)) = false := by simp; omega
  have e2 : (p == 0) = false := by simpa using hpp
  obtain ⟨r, hr⟩ : ∃ r, updateV l [(k, p)] = r := ⟨_, rfl⟩
  have HR := Lib.hid hr
  have HL : Hid (n ≤ 1000) := Lib.hid (by omega)
  have HU1 := Lib.hid (fun W hs => upd_one A l n c HN.out HL.out k p W hs)
  rw [hr] at HU1
  have HU2 := Lib.hid (fun W hs => upd_two A l n c HN.out HL.out k p k 0 W hs)
  obtain ⟨Q, hQ⟩ : ∃ Q, (fun (e : Ending) (w' : World) => e = .returned (.bool true) ∧ Below w.heap.size w w') = Q := ⟨_, rfl⟩
  have HQ := Lib.hid hQ
  rw [hQ]
  clear hA hn hr hQ hl hp0 hpp
  have c0 : W1.cell? ⟨n1, 0, none⟩ = some (.int .u64 k) := C1.out.k1.cell 0
  go_enter Try.func7, Try.ntmps7
  go_wp2_with fail
  clear hn1 hW1 c0
  with_reducible refine (HP.out).mono ?_
  rintro e w2 ⟨rfl, hb⟩
  have C2 := Lib.hid (C1.out.step hb)
  clear hb C1 HP
  have c0 : w2.cell? ⟨n1, 0, none⟩ = some (.int .u64 k) := C2.out.k1.cell 0
  have c1 : w2.cell? ⟨n1, 1, none⟩ = some (.int .i64 p) := C2.out.k1.cell 1
  go_wp2_with fail
  clear c0 c1 e1 e2
  with_reducible refine (HU1.out w2 C2.out.sl).mono ?_
  rintro e w3 ⟨v3, rfl, ho3, hb⟩
  have C3 := Lib.hid (C2.out.step hb)
  have O3 := Lib.hid ho3
  clear hb ho3 C2 HU1
  obtain ⟨a, en⟩ := r
  by_cases hz : en = 0
  · subst hz
    have h9 := law_back HP0.out HPP.out HR.out
    have hlen := upd_len HR.out
    rw [h9.2] at HU2
    obtain ⟨A3, c3, hve, hs3⟩ := own_at O3.out
    have S3 := Lib.hid hs3
    subst hve
    obtain ⟨na, hna⟩ : ∃ na, a.length = na := ⟨_, rfl⟩
    have HU3 := Lib.hid (fun W hs => upd_one A3 a na c3 hna (by omega) k 0 W hs)
    rw [h9.1] at HU3
    rw [hna]
    have c0 : w3.cell? ⟨n1, 0, none⟩ = some (.int .u64 k) := C3.out.k1.cell 0
    clear h9 hlen hna hs3 O3
    go_wp2_with fail
    clear c0
    with_reducible refine (HU3.out w3 S3.out).mono ?_
    rintro e w4 ⟨v4, rfl, ho4, hb⟩
    have C4 := Lib.hid (C3.out.step hb)
    have O4 := Lib.hid ho4
    clear hb ho4 C3 HU3 S3
    obtain ⟨A4, c4, hve, hs4⟩ := own_at O4.out
    have HS4 := Lib.hid (same_at A4 A l l n n c4 c HN.out HN.out HL.out HL.out w4 hs4 C4.out.sl)
    rw [decide_eq_true rfl] at HS4
    rw [HN.out] at hve
    subst hve
    clear hs4 O4
    go_wp2_with fail
    with_reducible refine (HS4.out).mono ?_
    rintro e w5 ⟨rfl, hb⟩
    have C5 := Lib.hid (C4.out.step hb)
    clear hb C4 HS4
    have c0 : w5.cell? ⟨n1, 0, none⟩ = some (.int .u64 k) := C5.out.k1.cell 0
    have c1 : w5.cell? ⟨n1, 1, none⟩ = some (.int .i64 p) := C5.out.k1.cell 1
    go_wp2_with fail
    clear c0 c1
    with_reducible refine (HU2.out w5 C5.out.sl).mono ?_
    rintro e w6 ⟨v6, rfl, ho6, hb⟩
    have C6 := Lib.hid (C5.out.step hb)
    have O6 := Lib.hid ho6
    clear hb ho6 C5 HU2
    obtain ⟨A6, c6, hve, hs6⟩ := own_at O6.out
    have HS6 := Lib.hid (same_at A6 A l l n n c6 c HN.out HN.out HL.out HL.out w6 hs6 C6.out.sl)
    rw [decide_eq_true rfl] at HS6
    rw [HN.out] at hve
    subst hve
    clear hs6 O6
    go_wp2_with fail
    with_reducible refine (HS6.out).mono ?_
    rintro e w7 ⟨rfl, hb⟩
    have C7 := Lib.hid (C6.out.step hb)
    clear hb C6 HS6
    go_wp2_with fail
    with_reducible refine (alive_any _).mono ?_
    rintro e w8 ⟨rfl, hb⟩
    have C8 := Lib.hid (C7.out.step hb)
    clear hb C7
    go_wp2_with fail
    rw [← HQ.out]
    exact ⟨rfl, C8.out.bel⟩
  · have e0 : (en == 0) = false := by simpa using hz
    clear hz
    go_wp2_with fail
    with_reducible refine (alive_any _).mono ?_
    rintro e w8 ⟨rfl, hb⟩
    have C8 := Lib.hid (C3.out.step hb)
    clear hb C3
    go_wp2_with fail
    rw [← HQ.out]
    exact ⟨rfl, C8.out.bel⟩

theorem walk (A : Option Addr) (l : VL) (c : Nat) (hlc : l.length ≤ c) (hcm : c ≤ maxLen) {w : World} (hA : Sl w w.heap.size 2 A l.length (vCells l)) (hw : ∀ x ∈ l, (Lit.int .u64 x.1).wf = true ∧ (Lit.int .i64 x.2).wf = true)
    (k p : Int) (hk : (Lit.int .u64 k).wf = true) (hp : (Lit.int .i64 p).wf = true) (_ : World) :
    Calls Try.prog 7 #[.slice A l.length c, .agg #[.int .u64 k, .int .i64 p]] w fun e w' => e = .returned (.bool true) ∧ Below w.heap.size w w' := by
  by_cases h : 80 < l.length ∨ powerV l k ≠ 0 ∨ p = 0
  · exact walk_not A l c k p w (Nat.le_trans hlc hcm) hA h _ (fun w' hb => ⟨rfl, hb⟩)
  · exact walk_in A l c k p w (by omega) hA (by omega) (by omega)

set_option maxRecDepth 100000 in
theorem lifted (os : Os) (started : os.Started) (H : Type) (enc : TypeId × Value → H) :
    ReturnsInHanded {} Try.checked os 7 .any (Rows.valsetBackSpec.pre6 enc Try.prog Try.f7 Rows.valsetBackRow.domain false) (Rows.valsetBackSpec.post enc Try.prog Try.f7 false true false false) := by
  refine returnsInHanded_of_change (C := Try.checked) own started (by kernel_rfl) Try.func7
    (ChangeSpec.witness6 (enc := enc) (C := Try.checked) false ⟨#[], #[.slice none 0 0, .agg #[.int .u64 0, .int .i64 0]], []⟩ 8 (by kernel_rfl) (by kernel_rfl) (by kernel_rfl) (by kernel_rfl)) ?_
  intro W base args ds gs before hval0 hW hcnd _
  have hval : ∀ (j : Nat) t v, Try.f7.params[j]? = some t → args[j]? = some v → Value.okWide Try.prog W .any base t v := hval0
  have hW' := hW
  obtain ⟨p, q, hA0, hV, rfl, hfz, hnd⟩ := hW
  have hA : DataW.TrodAll enc Try.prog W 0 (fun _ => true) true Try.f7.params.toList args.toList ds p := hA0
  rw [Try.params7] at hA hval
  obtain ⟨v0, vs0, d0, ds0, p0, q0, hargs, rfl, rfl, h0, r0⟩ := trodAll_cons hA
  obtain ⟨v1, vs1, d1, ds1, p1, q1, rfl, rfl, rfl, h1, r1⟩ := trodAll_cons r0
  obtain ⟨rfl, rfl, rfl⟩ := trodAll_nil r1
  obtain rfl : args = #[v0, v1] := by cases args; simp_all
  obtain ⟨rfl, rfl⟩ := trodVars_none hV
  have k0 := h0
  have lt0 : ∀ x ∈ p0, x.block < W.heap.size := by obtain ⟨m, hm⟩ := k0; exact DataW.trod_lt m _ _ _ hm
  have k1 := h1
  have lt1 : ∀ x ∈ p1, x.block < W.heap.size := by obtain ⟨m, hm⟩ := k1; exact DataW.trod_lt m _ _ _ hm
  obtain ⟨A0, l0, c0, rfl, u0, m0, s0, w0⟩ := open_vals (hval 0 22 v0 rfl rfl) h0 lt0
  obtain ⟨a1, b1, rfl, w1, x1⟩ := open_val (hval 1 26 v1 rfl rfl) h1
  clear hA0 hval0
  refine (walk A0 l0 c0 u0 m0 s0 w0 a1 b1 w1 x1 W).mono fun e W' ⟨he, bel⟩ => ?_
  subst he
  exact ⟨_, rfl, _, _, _, [], _, [], hW', trodAll_mk1 (shut_bool Try.underlying4 _), (trodAll_cons_mk (Below.trod laidOut (by kernel_rfl) (of_decide_eq_true (by kernel_rfl)) k0 bel lt0) (trodAll_cons_mk (Below.trod laidOut (by kernel_rfl) (of_decide_eq_true (by kernel_rfl)) k1 bel lt1) trodAll_mk0)), rfl, bel.frame _, fun h => by cases h⟩

theorem over : Rows.valsetBackRow.holds Try.pinned (OpenSpec.ofChange Rows.valsetBackSpec) :=
  OpenClaim.holds_of_wide 7 Try.f7 rfl rfl rfl rfl rfl rfl rfl ⟨rfl, rfl, rfl, rfl, rfl⟩ rfl rfl rfl rfl rfl (by kernel_rfl) Try.func7 (by kernel_rfl)
    (of_decide_eq_true (by kernel_rfl)) (by unfold Func.isWrapper; first | (rw [if_pos (by decide +kernel)]; kernel_rfl) | (rw [if_neg (by decide +kernel)]; exact ⟨rfl, rfl⟩))
    (fun os started H enc _ => lifted os started H enc)

/-- The statement. -/
theorem proved : Rows.ValsetBackSaid := over
#print axioms proved
end Go.Proofs.Ytlocapkofmpebaa.valsetBack

/- What this text proves: the statement ValsetTotal: for every list of validators and any change the law returns true and leaves its arguments as they were. No condition. -/
import Derived.Test.YtlocapkofmpebaaRows
import Derived.Test.YtlocapkofmpebaaOpenVal
import Derived.Test.YtlocapkofmpebaaVsCtx
import Derived.Test.YtlocapkofmpebaaQuiet
namespace Go.Proofs.Ytlocapkofmpebaa.valsetTotal
open Go.ChangeShapes Go.WideShapes Go.ChangeAt Go.RowKit
set_option linter.unusedVariables false
set_option linter.unusedSimpArgs false

theorem sum_pos : ∀ {l : VL}, (∀ v ∈ l, 1 ≤ v.2) → 0 ≤ (l.map (·.2)).sum := by
  intro l
  induction l with
  | nil => intro _; simp
  | cons v l ih =>
    intro h
    have h1 := h v (by simp)
    have h2 := ih (fun x hx => h x (by simp [hx]))
    rw [List.map_cons, List.sum_cons]
    omega
theorem power_le : ∀ {l : VL} (k : Int), (∀ v ∈ l, 1 ≤ v.2) → 0 ≤ powerV l k ∧ powerV l k ≤ (l.map (·.2)).sum := by
  intro l k
  induction l with
  | nil => intro _; simp [powerV]
  | cons v l ih =>
    intro h
    have h1 := h v (by simp)
    have h3 : ∀ x ∈ l, 1 ≤ x.2 := fun x hx => h x (by simp [hx])
    have h2 := ih h3
    have h4 := sum_pos h3
    rw [List.map_cons, List.sum_cons, powerV]
    split <;> omega
/-- All powers of a right list. -/
theorem right_total {l : VL} (h : rightV l = true) : ∃ N, totalV l = (N, 0) ∧ 0 ≤ N ∧ N ≤ 1125899906842624 ∧ (l.map (·.2)).sum = N ∧ ∀ k, 0 ≤ powerV l k ∧ powerV l k ≤ N := by
  have e1 := sumV_all (Int.le_refl 0) (by decide) (right_sum h)
  refine ⟨(sumV 0 l).1, by unfold totalV; rw [if_pos h], by omega, e1.2.2.1, by omega, fun k => ?_⟩
  have := power_le k (right_pos h)
  omega
theorem step_range {l m : VL} {k p : Int} (h : updateV l [(k, p)] = (m, 0)) : 0 ≤ p ∧ p ≤ 1125899906842624 := by
  have h2 := (updateV_ok h).2.1
  simp only [updV] at h2
  cases hs : stepV l k p with
  | error n => rw [hs] at h2; cases h2
  | ok m' =>
    unfold stepV at hs
    split at hs
    · cases hs
    · rename_i hb
      unfold badP at hb
      simp only [Bool.or_eq_true, decide_eq_true_eq, not_or] at hb
      omega

set_option maxHeartbeats 1000000 in
theorem walk_not (A : Option Addr) (l : VL) (n c : Nat) (k p : Int) (w : World) (hn : l.length = n) (hlm : l.length ≤ maxLen) (hA : Sl w w.heap.size 2 A l.length (vCells l)) (h : 80 < n ∨ rightV l = false) (Q : Ending → World → Prop) (hQ : ∀ w', Below w.heap.size w w' → Q (.returned (.bool true)) w') :
    Calls Try.prog 6 #[.slice A n c, .agg #[.int .u64 k, .int .i64 p]] w Q := by
  have HQ := Lib.hid hQ
  clear hQ
  obtain ⟨n1, hn1⟩ : ∃ n1, w.heap.size = n1 := ⟨_, rfl⟩
  obtain ⟨W1, hW1⟩ : ∃ W1, w.alloc (.cells #[.int .u64 k, .int .i64 p] 26) = W1 := ⟨_, rfl⟩
  have C1 := Lib.hid (Ctx.one hA hW1 hn1)
  have HT := Lib.hid (total_any A l c W1 hlm C1.out.sl)
  have HR := Lib.hid (fun W hs => right_any A l c W hlm hs)
  rw [hn] at HT HR
  have HN := Lib.hid hn
  clear hA hlm hn
  by_cases h1 : 80 < n
  · have e1 : decide (80 < (n : Int)) = true := by simp; omega
    clear h h1
    go_enter Try.func6, Try.ntmps6
    go_wp2_with fail
    clear hn1 hW1
    with_reducible refine (alive_any _).mono ?_
    rintro e w1 ⟨rfl, hb1⟩
    go_wp2_with fail
    exact HQ.out _ (C1.out.step hb1).bel
  · have e1 : decide (80 < (n : Int)) = false := by simp; omega
    have hr : rightV l = false := by rcases h with h | h
                                     · exact absurd h h1
                                     · exact h
    have ht : totalV l = (0, 71) := by unfold totalV; rw [hr]; rfl
    rw [ht] at HT
    rw [hr] at HR
    clear h1 h hr ht
    go_enter Try.func6, Try.ntmps6
    go_wp2_with fail
    clear hn1 hW1
    with_reducible refine HT.out.mono ?_
    rintro e w1 ⟨rfl, hb⟩
    have C2 := Lib.hid (C1.out.step hb)
    clear hb C1 HT
    go_wp2_with fail
    with_reducible refine (alive_any _).mono ?_
    rintro e w2 ⟨rfl, hb⟩
    have C3 := Lib.hid (C2.out.step hb)
    clear hb C2
    go_wp2_with fail
    with_reducible refine (HR.out w2 (sl_len HN.out.symm C3.out.sl)).mono ?_
    rintro e w3 ⟨rfl, hb⟩
    have C4 := Lib.hid (C3.out.step hb)
    clear hb C3
    go_wp2_with fail
    exact HQ.out _ C4.out.bel

set_option maxHeartbeats 8000000 in
theorem walk_in (A : Option Addr) (l : VL) (n c : Nat) (k p : Int) (w : World) (hn : l.length = n) (hl : n ≤ 80) (hA : Sl w w.heap.size 2 A l.length (vCells l)) (hr : rightV l = true) (Q : Ending → World → Prop) (hQ : ∀ w', Below w.heap.size w w' → Q (.returned (.bool true)) w') :
    Calls Try.prog 6 #[.slice A n c, .agg #[.int .u64 k, .int .i64 p]] w Q := by
  have HQ := Lib.hid hQ
  clear hQ
  obtain ⟨n1, hn1⟩ : ∃ n1, w.heap.size = n1 := ⟨_, rfl⟩
  obtain ⟨W1, hW1⟩ : ∃ W1, w.alloc (.cells #[.int .u64 k, .int .i64 p] 26) = W1 := ⟨_, rfl⟩
  have C1 := Lib.hid (Ctx.one hA hW1 hn1)
  obtain ⟨N, hN, hN0, hN1, hNs, hpw⟩ := right_total hr
  have hlm : l.length ≤ maxLen := by unfold maxLen; omega
  have HT := Lib.hid (total_any A l c W1 hlm C1.out.sl)
  rw [hN, hn] at HT
  have HP := Lib.hid (fun W hs key => power_any A l c key W hlm hs)
  rw [hn] at HP
  have HU := Lib.hid (fun W hs => upd_one A l n c hn (by omega) k p W hs)
  obtain ⟨r, hr9⟩ : ∃ r, updateV l [(k, p)] = r := ⟨_, rfl⟩
  rw [hr9] at HU
  have HV := Lib.hid hr9
  have HN := Lib.hid hn
  have HTN := Lib.hid hN
  have HPW := Lib.hid hpw
  have HRT := Lib.hid hr
  have HNS := Lib.hid hNs
  have e1 : decide (80 < (n : Int)) = false := by simp; omega
  clear hA hn hr hr9 hpw hN hlm hNs
  go_enter Try.func6, Try.ntmps6
  go_wp2_with fail
  clear hn1 hW1 e1
  with_reducible refine HT.out.mono ?_
  rintro e w2 ⟨rfl, hb⟩
  have C2 := Lib.hid (C1.out.step hb)
  clear hb C1 HT
  go_wp2_with fail
  go_loopw [7, 8] (fun s i wr => ∃ (j : Nat) (q : Int), j ≤ n ∧ i = .int .i64 j ∧ s = .int .i64 q ∧ 0 ≤ q ∧ q + ((l.drop j).map (·.2)).sum = N ∧ Ctx w wr A l n1 n1 k p k p) (fun _ i _ => n - (intOf i).toNat)
  case atStart => exact ⟨0, 0, by omega, rfl, rfl, by omega, by simpa using HNS.out, C2.out⟩
  case round =>
    clear C2
    obtain ⟨j, q, hj, rfl, rfl, hq0, hqs, hctx⟩ := hrel
    have CR := Lib.hid hctx
    have HQS := Lib.hid hqs
    clear hctx hqs
    by_cases hlt : j < n
    · obtain ⟨b, off, ke, pe, rfl, hb, hck, hcp, hlk⟩ := CR.out.sl.val (k := j) (by rw [HN.out]; exact hlt)
      have hpe : powerV l ke = pe := power_at (right_upm HRT.out) (v := (ke, pe)) (List.mem_of_getElem? hlk)
      have hrange := HPW.out ke
      have hqs := HQS.out
      rw [drop_at hlk, List.map_cons, List.sum_cons] at hqs
      have htail := sum_pos (l := l.drop (j + 1)) (fun v hv => right_pos HRT.out v (List.mem_of_mem_drop hv))
      have HQ2 : Hid (q + pe + ((l.drop (j + 1)).map (·.2)).sum = N) := Lib.hid (by simp only [] at hqs; omega)
      have hqp : 0 ≤ q + pe ∧ q + pe ≤ 1125899906842624 := by simp only [] at hqs; omega
      obtain ⟨hq1, hq2⟩ := hqp
      have HC := Lib.hid (HP.out wr (sl_len HN.out.symm CR.out.sl) ke)
      rw [hpe] at HC
      clear hpe hrange hqs htail hlk HQS
      go_wp2_with fail
      with_reducible refine HC.out.mono ?_
      rintro e w3 ⟨rfl, hb3⟩
      have C3 := Lib.hid (CR.out.step hb3)
      clear hb3 HC CR
      go_wp2_with fail
      go_roundw
      case rel => exact ⟨j+1, q+pe, by omega, by go_num, by go_num, hq1, HQ2.out, C3.out⟩
      case measure => simp [intOf]; omega
    · obtain rfl : j = n := by omega
      have hq9 : q = N := by
        have := HQS.out
        rw [← HN.out, List.drop_length] at this
        simpa using this
      subst hq9
      clear HQS
      have c0 : wr.cell? ⟨n1, 0, none⟩ = some (.int .u64 k) := CR.out.k1.cell 0
      have c1 : wr.cell? ⟨n1, 1, none⟩ = some (.int .i64 p) := CR.out.k1.cell 1
      go_wp2_with fail
      clear c0 c1
      with_reducible refine (HU.out wr CR.out.sl).mono ?_
      rintro e w4 ⟨v4, rfl, ho4, hb⟩
      have C4 := Lib.hid (CR.out.step hb)
      have O4 := Lib.hid ho4
      clear hb ho4 CR HU
      obtain ⟨m, fn⟩ := r
      by_cases hz : fn = 0
      · subst hz
        have h9 := law_total HV.out
        have h8 := step_range HV.out
        rw [HTN.out] at h9
        have hlm := upd_len HV.out
        obtain ⟨nm, hnm⟩ : ∃ nm, m.length = nm := ⟨_, rfl⟩
        obtain ⟨A4, d4, hve, hs4⟩ := own_at O4.out
        have HT4 := Lib.hid (total_any A4 m d4 w4 (by unfold maxLen; omega) hs4)
        rw [h9, hnm] at HT4
        rw [hnm] at hve
        subst hve
        have h7 := HPW.out k
        obtain ⟨h71, h72⟩ := h7
        obtain ⟨h81, h82⟩ := h8
        have HP5 := Lib.hid (fun W hs => HP.out W hs k)
        obtain ⟨g, hg⟩ : ∃ g, powerV l k = g := ⟨_, rfl⟩
        rw [hg] at HT4 h71 h72 HP5
        clear hs4 O4 h9 hlm hnm hg
        go_wp2_with fail
        with_reducible refine HT4.out.mono ?_
        rintro e w5 ⟨rfl, hb⟩
        have C5 := Lib.hid (C4.out.step hb)
        clear hb C4 HT4
        have k0 : ∀ x : BW w5, x.val.cell? ⟨n1, 0, none⟩ = some (.int .u64 k) := fun x => x.cell (C5.out.k1.cell 0) C5.out.k1.lt
        have k1 : ∀ x : BW w5, x.val.cell? ⟨n1, 1, none⟩ = some (.int .i64 p) := fun x => x.cell (C5.out.k1.cell 1) C5.out.k1.lt
        have HS5 := Lib.hid (fun x : BW w5 => HP5.out x.val (x.sl (sl_len HN.out.symm C5.out.sl) (Nat.le_refl _)))
        have g1 : IntKind.i64.wrap (q - g) = q - g := IntWalk.i64_in _ (by omega)
        have g2 : IntKind.i64.wrap (q - g + p) = q - g + p := IntWalk.i64_in _ (by omega)
        go_wp2_with fail
        refine wp_region_bw (by kernel_rfl) (by kernel_rfl) ?_
        repeat (go_big_quiet_step (first | exact quiet_bw _ (alive_any _) | exact quiet_bw _ (HS5.out _)))
        refine wpQuiet_nil ?_; intro _ hwq; obtain ⟨⟨wq, hbq⟩, hwq'⟩ := hwq; subst hwq'
        go_wp2_with fail
        exact HQ.out _ (C5.out.step hbq).bel
      · have e0 : (fn == 0) = false := by simpa using hz
        clear hz
        go_wp2_with fail
        with_reducible refine (alive_any _).mono ?_
        rintro e w9 ⟨rfl, hb⟩
        have C9 := Lib.hid (C4.out.step hb)
        clear hb C4
        go_wp2_with fail
        exact HQ.out _ C9.out.bel

theorem walk (A : Option Addr) (l : VL) (c : Nat) (hlc : l.length ≤ c) (hcm : c ≤ maxLen) {w : World} (hA : Sl w w.heap.size 2 A l.length (vCells l)) (hw : ∀ x ∈ l, (Lit.int .u64 x.1).wf = true ∧ (Lit.int .i64 x.2).wf = true)
    (k p : Int) (hk : (Lit.int .u64 k).wf = true) (hp : (Lit.int .i64 p).wf = true) (_ : World) :
    Calls Try.prog 6 #[.slice A l.length c, .agg #[.int .u64 k, .int .i64 p]] w fun e w' => e = .returned (.bool true) ∧ Below w.heap.size w w' := by
  by_cases h : 80 < l.length ∨ rightV l = false
  · exact walk_not A l _ c k p w rfl (Nat.le_trans hlc hcm) hA h _ (fun w' hb => ⟨rfl, hb⟩)
  · have hr : rightV l = true := by
      cases h9 : rightV l with
      | true => rfl
      | false => exact absurd (.inr h9) h
    exact walk_in A l _ c k p w rfl (by omega) hA hr _ (fun w' hb => ⟨rfl, hb⟩)

set_option maxRecDepth 100000 in
theorem lifted (os : Os) (started : os.Started) (H : Type) (enc : TypeId × Value → H) :
    ReturnsInHanded {} Try.checked os 6 .any (Rows.valsetTotalSpec.pre6 enc Try.prog Try.f6 Rows.valsetTotalRow.domain false) (Rows.valsetTotalSpec.post enc Try.prog Try.f6 false true false false) := by
  refine returnsInHanded_of_change (C := Try.checked) own started (by kernel_rfl) Try.func6
    (ChangeSpec.witness6 (enc := enc) (C := Try.checked) false ⟨#[], #[.slice none 0 0, .agg #[.int .u64 0, .int .i64 0]], []⟩ 8 (by kernel_rfl) (by kernel_rfl) (by kernel_rfl) (by kernel_rfl)) ?_
  intro W base args ds gs before hval0 hW hcnd _
  have hval : ∀ (j : Nat) t v, Try.f6.params[j]? = some t → args[j]? = some v → Value.okWide Try.prog W .any base t v := hval0
  have hW' := hW
  obtain ⟨p, q, hA0, hV, rfl, hfz, hnd⟩ := hW
  have hA : DataW.TrodAll enc Try.prog W 0 (fun _ => true) true Try.f6.params.toList args.toList ds p := hA0
  rw [Try.params6] at hA hval
  obtain ⟨v0, vs0, d0, ds0, p0, q0, hargs, rfl, rfl, h0, r0⟩ := trodAll_cons hA
  obtain ⟨v1, vs1, d1, ds1, p1, q1, rfl, rfl, rfl, h1, r1⟩ := trodAll_cons r0
  obtain ⟨rfl, rfl, rfl⟩ := trodAll_nil r1
  obtain rfl : args = #[v0, v1] := by cases args; simp_all
  obtain ⟨rfl, rfl⟩ := trodVars_none hV
  have k0 := h0
  have lt0 : ∀ x ∈ p0, x.block < W.heap.size := by obtain ⟨m, hm⟩ := k0; exact DataW.trod_lt m _ _ _ hm
  have k1 := h1
  have lt1 : ∀ x ∈ p1, x.block < W.heap.size := by obtain ⟨m, hm⟩ := k1; exact DataW.trod_lt m _ _ _ hm
  obtain ⟨A0, l0, c0, rfl, u0, m0, s0, w0⟩ := open_vals (hval 0 22 v0 rfl rfl) h0 lt0
  obtain ⟨a1, b1, rfl, w1, x1⟩ := open_val (hval 1 26 v1 rfl rfl) h1
  clear hA0 hval0
  refine (walk A0 l0 c0 u0 m0 s0 w0 a1 b1 w1 x1 W).mono fun e W' ⟨he, bel⟩ => ?_
  subst he
  exact ⟨_, rfl, _, _, _, [], _, [], hW', trodAll_mk1 (shut_bool Try.underlying4 _), (trodAll_cons_mk (Below.trod laidOut (by kernel_rfl) (of_decide_eq_true (by kernel_rfl)) k0 bel lt0) (trodAll_cons_mk (Below.trod laidOut (by kernel_rfl) (of_decide_eq_true (by kernel_rfl)) k1 bel lt1) trodAll_mk0)), rfl, bel.frame _, fun h => by cases h⟩

theorem over : Rows.valsetTotalRow.holds Try.pinned (OpenSpec.ofChange Rows.valsetTotalSpec) :=
  OpenClaim.holds_of_wide 6 Try.f6 rfl rfl rfl rfl rfl rfl rfl ⟨rfl, rfl, rfl, rfl, rfl⟩ rfl rfl rfl rfl rfl (by kernel_rfl) Try.func6 (by kernel_rfl)
    (of_decide_eq_true (by kernel_rfl)) (by unfold Func.isWrapper; first | (rw [if_pos (by decide +kernel)]; kernel_rfl) | (rw [if_neg (by decide +kernel)]; exact ⟨rfl, rfl⟩))
    (fun os started H enc _ => lifted os started H enc)

/-- The statement. -/
theorem proved : Rows.ValsetTotalSaid := over
#print axioms proved
end Go.Proofs.Ytlocapkofmpebaa.valsetTotal

/- What this text proves: the statement ValsetUpdates: for every list of validators and all changes the law returns true and leaves its arguments as they were. No condition. -/
import Derived.Test.YtlocapkofmpebaaRows
import Derived.Test.YtlocapkofmpebaaOpenVal
import Derived.Test.YtlocapkofmpebaaVsRefC
namespace Go.Proofs.Ytlocapkofmpebaa.valsetUpdates
open Go.ChangeShapes Go.WideShapes Go.ChangeAt Go.RowKit
set_option linter.unusedVariables false
set_option linter.unusedSimpArgs false

/-- What is known while the law goes on. -/
structure UCtx (w W : World) (A A' : Option Addr) (l cs : VL) (g n cap : Nat) : Prop where
  bel : Below w.heap.size w W
  sl : Sl W W.heap.size 2 A l.length (vCells l)
  sc : Sl W W.heap.size 2 A' cs.length (vCells cs)
  own : VOwn W w.heap.size (.slice (some ⟨g, 0, none⟩) (n + 1) cap) (l ++ [(77, 0)])
theorem UCtx.step {w W W' : World} {A A' : Option Addr} {l cs : VL} {g n cap : Nat} (h : UCtx w W A A' l cs g n cap) (hb : Below W.heap.size W W') : UCtx w W' A A' l cs g n cap :=
  ⟨h.bel.trans (hb.mono h.bel.size), sl_bl h.sl hb, sl_bl h.sc hb, vown_bl h.own hb⟩
theorem UCtx.mine {w W : World} {A A' : Option Addr} {l cs : VL} {g n cap : Nat} (h : UCtx w W A A' l cs g n cap) (hn : l.length = n) : Sl W W.heap.size 2 (some ⟨g, 0, none⟩) l.length (vCells l) := by
  obtain ⟨A2, c2, hv, _, _, hs⟩ := own_sl h.own
  simp only [Value.slice.injEq] at hv
  obtain ⟨rfl, _, _⟩ := hv
  have := hs.take (k := l.length) (by simp)
  rw [vCells_take, List.take_left] at this
  exact this
theorem UCtx.mark {w W : World} {A A' : Option Addr} {l cs : VL} {g n cap : Nat} (h : UCtx w W A A' l cs g n cap) (hn : l.length = n) : W.cell? ⟨g, n * 2, none⟩ = some (.int .u64 77) := by
  have h1 := vown_n h.own (n := n + 1) (by simp [hn])
  refine (World.ownsRow.cellAt h1 _ (by omega)).trans ?_
  rw [vCells_app, List.getElem?_append_right (by rw [vCells_len]; omega), vCells_len, hn, Nat.sub_self]
  rfl

theorem app0 {w : World} {B n : Nat} {v : Value} {l : VL} (hl : l.length = n) (h : w.ownsRow B 26 2 v (0 + n) ([] ++ vCells l)) : VOwn w B v l := by
  subst hl
  rw [Nat.zero_add, List.nil_append] at h
  exact h
theorem app_form {w : World} {B n : Nat} {v : Value} {xs : List Value} (h : w.ownsRow B 26 2 v (n + 1) xs) : ∃ g cap, v = .slice (some ⟨g, 0, none⟩) (n + 1) cap ∧ (n : Int) + 1 ≤ (cap : Int) ∧ (cap : Int) ≤ 9223372036854775807 := by
  rcases h.2 with ⟨_, h0⟩ | ⟨g, cap, cur, hv, hb, hg, hnc, hcm, _⟩
  · omega
  · exact ⟨g, cap, hv, by omega, by unfold maxLen at hcm; omega⟩
theorem second_bel {w w10 w28 : World} {v10 : Value} {l : VL} {cs : Array Value} {t : TypeId} (hb : Below w.heap.size w w10) (ho : VOwn w10 w.heap.size v10 l) (hg : (w10.alloc (.cells cs t)).grownBy w28 v10.ownBlock) : Below w.heap.size w w28 :=
  (hb.trans ((alloc_bel w10 cs t).mono hb.size)).grown hg (Nat.le_trans hb.size (alloc_bel w10 cs t).size) (fun k hk => (own_cells ho hk).1)
theorem UCtx.new {w W : World} {A A' : Option Addr} {l cs : VL} {g n cap : Nat} (hA : Sl w w.heap.size 2 A l.length (vCells l)) (hA' : Sl w w.heap.size 2 A' cs.length (vCells cs)) (hn : l.length = n) (hb : Below w.heap.size w W) (ho : W.ownsRow w.heap.size 26 2 (.slice (some ⟨g, 0, none⟩) (n + 1) cap) (n + 1) (vCells l ++ [.int .u64 77, .int .i64 0])) : UCtx w W A A' l cs g n cap :=
  ⟨hb, sl_bl hA hb, sl_bl hA' hb, vown_app rfl hn ho⟩

theorem UCtx.chg {w W : World} {A A' : Option Addr} {l cs : VL} {g n m cap : Nat} (h : UCtx w W A A' l cs g n cap) (hm : cs.length = m) : Sl (W.alloc (.cells #[] 26)) (W.alloc (.cells #[] 26)).heap.size 2 A' m (vCells cs) := by
  have := sl_bl h.sc (alloc_bel W #[] 26)
  rw [hm] at this
  exact this
theorem third_bel {w w2 : World} {n cap : Nat} (hg : (w.alloc (.cells #[] 26)).grownBy w2 (Value.slice (some ⟨w.heap.size, 0, none⟩) n cap).ownBlock) : Below w.heap.size w w2 :=
  (alloc_bel w #[] 26).grown hg (alloc_bel w #[] 26).size (fun k hk => by
    have : w.heap.size = k := by simpa [Value.ownBlock] using hk
    omega)
theorem upd_at (A A' : Option Addr) (l cs : VL) (n m c c' : Nat) (hn : l.length = n) (hm : cs.length = m) (hl : n ≤ 1000) (hcs : m ≤ 1000) (W : World) (hA : Sl W W.heap.size 2 A l.length (vCells l)) (hA' : Sl W W.heap.size 2 A' cs.length (vCells cs)) :
    Calls Try.prog 9 #[.slice A n c, .slice A' m c'] W (UpP W.heap.size (updateV l cs) W) := by
  subst hn hm
  exact update_any A A' l cs c c' W hl hcs hA hA'
theorem refUpd_at (A A' : Option Addr) (l cs : VL) (n m c c' : Nat) (hn : l.length = n) (hm : cs.length = m) (hl : n ≤ 1000) (hcs : m ≤ 1000) (W : World) (hA : Sl W W.heap.size 2 A l.length (vCells l)) (hA' : Sl W W.heap.size 2 A' cs.length (vCells cs)) :
    Calls Try.prog 10 #[.slice A n c, .slice A' m c'] W (RefP W.heap.size (updateV l cs) W) := by
  subst hn hm
  exact refUpdate_any A A' l cs c c' W hl hcs hA hA'
theorem upd_small (l cs : VL) : (updateV l cs).1.length ≤ 1000 := by
  by_cases h : (updateV l cs).2 = 0
  · have := upd_len (l := l) (cs := cs) (a := (updateV l cs).1) (by rw [← h])
    omega
  · rw [updateV_bad h]; simp

set_option maxHeartbeats 1000000 in
theorem walk_long (A A' : Option Addr) (n n' c c' : Nat) (w : World) (h : 80 < n ∨ 80 < n') :
    Calls Try.prog 3 #[.slice A n c, .slice A' n' c'] w fun e w' => e = .returned (.bool true) ∧ Below w.heap.size w w' := by
  by_cases h1 : 80 < n
  · clear h
    have e1 : decide (80 < (n : Int)) = true := by simp; omega
    clear h1
    go_enter Try.func3, Try.ntmps3
    go_wp2_with fail
    refine (alive_any _).mono ?_
    rintro e w1 ⟨rfl, hb1⟩
    go_wp2_with fail
    go_ret
    exact ⟨rfl, hb1⟩
  · have e1 : decide (80 < (n : Int)) = false := by simp; omega
    have e2 : decide (80 < (n' : Int)) = true := by simp; omega
    clear h1 h
    go_enter Try.func3, Try.ntmps3
    go_wp2_with fail
    refine (alive_any _).mono ?_
    rintro e w1 ⟨rfl, hb1⟩
    go_wp2_with fail
    go_ret
    exact ⟨rfl, hb1⟩

set_option maxRecDepth 100000 in
set_option maxHeartbeats 8000000 in
theorem walk_in (A A' : Option Addr) (l cs : VL) (n m c c' : Nat) (w : World) (hn : l.length = n) (hm : cs.length = m) (hl : n ≤ 80) (hcs : m ≤ 80) (hA : Sl w w.heap.size 2 A l.length (vCells l)) (hA' : Sl w w.heap.size 2 A' cs.length (vCells cs)) (Q : Ending → World → Prop) (hQ : ∀ w', Below w.heap.size w w' → Q (.returned (.bool true)) w') :
    Calls Try.prog 3 #[.slice A n c, .slice A' m c'] w Q := by
  obtain ⟨i0, hi0, hz0, hz1, hz2⟩ := info_parts val_info
  have HQ := Lib.hid hQ
  have HN := Lib.hid hn
  have HM := Lib.hid hm
  have HA := Lib.hid hA
  have HA' := Lib.hid hA'
  have e1 : decide (80 < (n : Int)) = false := by simp; omega
  have e2 : decide (80 < (m : Int)) = false := by simp; omega
  have O9 := Lib.hid (World.ownsRow_made (base := w.heap.size) (e := 26) (size := 2) w #[] 0 (Nat.le_refl _) (by unfold maxLen; omega) (by simp))
  have L9 : Hid (Below w.heap.size w (w.alloc (.cells #[] 26))) := Lib.hid (alloc_bel _ _ _)
  have S9 : Hid (Sl (w.alloc (.cells #[] 26)) (w.alloc (.cells #[] 26)).heap.size 2 A n (vCells l)) := Lib.hid (by have := sl_bl hA L9.out; rw [hn] at this; exact this)
  clear hQ hn hm hA hA'
  go_enter Try.func3, Try.ntmps3
  go_upto_region 3 with fail
  clear e1 e2
  go_wp2_with (first
    | (refine wpList_append_sl (w.alloc (.cells #[] 26)) (by rfl) _ _ 22 (by rfl) w.heap.size 26 i0 _ 2 16 Try.underlying22 hi0 hz0 hz1 hz2 rfl (by omega) (.slice (some ⟨w.heap.size, 0, none⟩) 0 0) 0 [] (by rfl) O9.out A n c (vCells l) (by rfl) S9.out (vCells_one l) (by unfold maxLen; omega) (by omega) (by simp) ?_; intro v10 w10 ho_ hg_ hv_; have O10 : Hid (VOwn w10 w.heap.size v10 l) := Lib.hid (app0 HN.out ho_); have L10 : Hid (Below w.heap.size w w10) := Lib.hid (L9.out.grown hg_ (by simp) (fun k hk => (own_cells O9.out hk).1)); clear ho_ hg_ hv_)
    | (refine wpList_append_sl (w10.alloc (.cells #[.int .u64 77, .int .i64 0] 26)) (by rfl) _ _ 22 (by rfl) w.heap.size 26 i0 _ 2 16 Try.underlying22 hi0 hz0 hz1 hz2 rfl (by omega) v10 n (vCells l) (by rfl) (vown_n (vown_bl O10.out (alloc_bel _ _ _)) HN.out) (some ⟨w10.heap.size, 0, none⟩) 1 1 [.int .u64 77, .int .i64 0] (by rfl) (one_sl w10 77 0) (by intro u hu; simp at hu; rcases hu with rfl | rfl <;> rfl) (by unfold maxLen; omega) (by omega) (by have := L10.out.size; simp; omega) ?_; intro v28 w28 ho_ hg_ hv_; obtain ⟨g, cap, hve_, hnc_, hcm_⟩ := app_form ho_; rw [hve_] at ho_; subst hve_; have C28 := Lib.hid (UCtx.new HA.out HA'.out HN.out (second_bel L10.out O10.out hg_) ho_); clear ho_ hg_ hv_)
    | (refine wpList_append_sl (w28.alloc (.cells #[] 26)) (by rfl) _ _ 22 (by rfl) w28.heap.size 26 i0 _ 2 16 Try.underlying22 hi0 hz0 hz1 hz2 rfl (by omega) (.slice (some ⟨w28.heap.size, 0, none⟩) 0 0) 0 [] (by rfl) (World.ownsRow_made (base := w28.heap.size) (e := 26) (size := 2) w28 #[] 0 (Nat.le_refl _) (by unfold maxLen; omega) (by simp)) A' m c' (vCells cs) (by rfl) (C28.out.chg HM.out) (vCells_one cs) (by unfold maxLen; omega) (by omega) (by simp) ?_; intro v34 w34 ho_ hg_ hv_; have L34 : Hid (Below w28.heap.size w28 w34) := Lib.hid (third_bel hg_); obtain ⟨A5, c5, hve_, hs_⟩ := own_at (app0 HM.out ho_); rw [HM.out] at hve_; subst hve_; have S34 := Lib.hid hs_; have C34 := Lib.hid (C28.out.step L34.out); clear ho_ hg_ hv_ hs_ L34 C28 L9 O9 S9 L10 O10))
  with_reducible refine (upd_at _ _ l cs n m cap c5 HN.out HM.out (by omega) (by omega) w34 (C34.out.mine HN.out) S34.out).mono ?_
  rintro e w3 ⟨v3, rfl, ho3, hb⟩
  obtain ⟨A3, c3, hve, hs3⟩ := own_at ho3
  subst hve
  have HX := Lib.hid (upd_small l cs)
  have HR := Lib.hid (fun W hA hA' => refUpd_at A A' l cs n m c c' HN.out HM.out (by omega) (by omega) W hA hA')
  obtain ⟨r, hr⟩ : ∃ r, updateV l cs = r := ⟨_, rfl⟩
  rw [hr] at HX HR hs3 ⊢
  obtain ⟨x, en⟩ := r
  clear hr ho3
  have C3 := Lib.hid (C34.out.step hb)
  have S3 := Lib.hid hs3
  have T3 := Lib.hid (sl_bl S34.out hb)
  clear hb hs3 S34 C34
  go_wp2_with fail
  with_reducible refine (HR.out w3 C3.out.sl C3.out.sc).mono ?_
  rintro e w4 ⟨A4, c4, rfl, hs4, hb⟩
  have C4 := Lib.hid (C3.out.step hb)
  have S4 := Lib.hid (sl_bl S3.out hb)
  have T4 := Lib.hid (sl_bl T3.out hb)
  have R4 := Lib.hid hs4
  obtain ⟨nx, hnx⟩ : ∃ nx, x.length = nx := ⟨_, rfl⟩
  have HNX := Lib.hid hnx
  have HXL : Hid (nx ≤ 1000) := Lib.hid (by rw [← hnx]; exact HX.out)
  have HS := Lib.hid (same_at A3 A4 x x nx nx c3 c4 HNX.out HNX.out HXL.out HXL.out w4 S4.out R4.out)
  rw [decide_eq_true rfl] at HS
  clear hb hs4 C3 S3 T3 S4 R4 HR
  simp only [hnx]
  clear hnx
  go_wp2_with fail
  with_reducible refine HS.out.mono ?_
  rintro e w5 ⟨rfl, hb⟩
  have C5 := Lib.hid (C4.out.step hb)
  have T5 := Lib.hid (sl_bl T4.out hb)
  clear hb C4 T4 HS
  have HS := Lib.hid (same_at (some ⟨g, 0, none⟩) A l l n n cap c HN.out HN.out (by omega) (by omega) w5 (C5.out.mine HN.out) C5.out.sl)
  rw [decide_eq_true rfl] at HS
  go_wp2_with fail
  with_reducible refine HS.out.mono ?_
  rintro e w6 ⟨rfl, hb⟩
  have C6 := Lib.hid (C5.out.step hb)
  have T6 := Lib.hid (sl_bl T5.out hb)
  clear hb C5 T5 HS
  have HS := Lib.hid (same_at A5 A' cs cs m m c5 c' HM.out HM.out (by omega) (by omega) w6 T6.out C6.out.sc)
  rw [decide_eq_true rfl] at HS
  go_wp2_with fail
  with_reducible refine HS.out.mono ?_
  rintro e w7 ⟨rfl, hb⟩
  have C7 := Lib.hid (C6.out.step hb)
  clear hb C6 T6 HS
  go_wp2_with fail
  with_reducible refine (alive_any _).mono ?_
  rintro e w8 ⟨rfl, hb⟩
  have C8 := Lib.hid (C7.out.step hb)
  clear hb C7
  have c0 := C8.out.mark HN.out
  go_wp2_with fail
  exact HQ.out _ C8.out.bel

theorem walk (A : Option Addr) (l : VL) (c : Nat) (hlc : l.length ≤ c) (hcm : c ≤ maxLen) {w : World} (hA : Sl w w.heap.size 2 A l.length (vCells l)) (hw : ∀ x ∈ l, (Lit.int .u64 x.1).wf = true ∧ (Lit.int .i64 x.2).wf = true)
    (A' : Option Addr) (cs : VL) (c' : Nat) (hlc' : cs.length ≤ c') (hcm' : c' ≤ maxLen) (hA' : Sl w w.heap.size 2 A' cs.length (vCells cs)) (hw' : ∀ x ∈ cs, (Lit.int .u64 x.1).wf = true ∧ (Lit.int .i64 x.2).wf = true) (_ : World) :
    Calls Try.prog 3 #[.slice A l.length c, .slice A' cs.length c'] w fun e w' => e = .returned (.bool true) ∧ Below w.heap.size w w' := by
  by_cases h : 80 < l.length ∨ 80 < cs.length
  · exact walk_long A A' _ _ c c' w h
  · exact walk_in A A' l cs _ _ c c' w rfl rfl (by omega) (by omega) hA hA' _ (fun w' h => ⟨rfl, h⟩)

set_option maxRecDepth 100000 in
theorem lifted (os : Os) (started : os.Started) (H : Type) (enc : TypeId × Value → H) :
    ReturnsInHanded {} Try.checked os 3 .any (Rows.valsetUpdatesSpec.pre6 enc Try.prog Try.f3 Rows.valsetUpdatesRow.domain false) (Rows.valsetUpdatesSpec.post enc Try.prog Try.f3 false true false false) := by
  refine returnsInHanded_of_change (C := Try.checked) own started (by kernel_rfl) Try.func3
    (ChangeSpec.witness6 (enc := enc) (C := Try.checked) false ⟨#[], #[.slice none 0 0, .slice none 0 0], []⟩ 8 (by kernel_rfl) (by kernel_rfl) (by kernel_rfl) (by kernel_rfl)) ?_
  intro W base args ds gs before hval0 hW hcnd _
  have hval : ∀ (j : Nat) t v, Try.f3.params[j]? = some t → args[j]? = some v → Value.okWide Try.prog W .any base t v := hval0
  have hW' := hW
  obtain ⟨p, q, hA0, hV, rfl, hfz, hnd⟩ := hW
  have hA : DataW.TrodAll enc Try.prog W 0 (fun _ => true) true Try.f3.params.toList args.toList ds p := hA0
  rw [Try.params3] at hA hval
  obtain ⟨v0, vs0, d0, ds0, p0, q0, hargs, rfl, rfl, h0, r0⟩ := trodAll_cons hA
  obtain ⟨v1, vs1, d1, ds1, p1, q1, rfl, rfl, rfl, h1, r1⟩ := trodAll_cons r0
  obtain ⟨rfl, rfl, rfl⟩ := trodAll_nil r1
  obtain rfl : args = #[v0, v1] := by cases args; simp_all
  obtain ⟨rfl, rfl⟩ := trodVars_none hV
  have k0 := h0
  have lt0 : ∀ x ∈ p0, x.block < W.heap.size := by obtain ⟨m, hm⟩ := k0; exact DataW.trod_lt m _ _ _ hm
  have k1 := h1
  have lt1 : ∀ x ∈ p1, x.block < W.heap.size := by obtain ⟨m, hm⟩ := k1; exact DataW.trod_lt m _ _ _ hm
  obtain ⟨A0, l0, c0, rfl, u0, m0, s0, w0⟩ := open_vals (hval 0 22 v0 rfl rfl) h0 lt0
  obtain ⟨A1, l1, c1, rfl, u1, m1, s1, w1⟩ := open_vals (hval 1 22 v1 rfl rfl) h1 lt1
  clear hA0 hval0
  refine (walk A0 l0 c0 u0 m0 s0 w0 A1 l1 c1 u1 m1 s1 w1 W).mono fun e W' ⟨he, bel⟩ => ?_
  subst he
  exact ⟨_, rfl, _, _, _, [], _, [], hW', trodAll_mk1 (shut_bool Try.underlying4 _), (trodAll_cons_mk (Below.trod laidOut (by kernel_rfl) (of_decide_eq_true (by kernel_rfl)) k0 bel lt0) (trodAll_cons_mk (Below.trod laidOut (by kernel_rfl) (of_decide_eq_true (by kernel_rfl)) k1 bel lt1) trodAll_mk0)), rfl, bel.frame _, fun h => by cases h⟩

theorem over : Rows.valsetUpdatesRow.holds Try.pinned (OpenSpec.ofChange Rows.valsetUpdatesSpec) :=
  OpenClaim.holds_of_wide 3 Try.f3 rfl rfl rfl rfl rfl rfl rfl ⟨rfl, rfl, rfl, rfl, rfl⟩ rfl rfl rfl rfl rfl (by kernel_rfl) Try.func3 (by kernel_rfl)
    (of_decide_eq_true (by kernel_rfl)) (by unfold Func.isWrapper; first | (rw [if_pos (by decide +kernel)]; kernel_rfl) | (rw [if_neg (by decide +kernel)]; exact ⟨rfl, rfl⟩))
    (fun os started H enc _ => lifted os started H enc)

/-- The statement. -/
theorem proved : Rows.ValsetUpdatesSaid := over
#print axioms proved
end Go.Proofs.Ytlocapkofmpebaa.valsetUpdates

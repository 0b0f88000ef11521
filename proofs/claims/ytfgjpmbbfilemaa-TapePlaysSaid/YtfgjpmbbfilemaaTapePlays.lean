/- What this text proves: the statement TapePlays: for every script the law returns true and leaves its argument as it was. No condition. -/
import Derived.Test.YtfgjpmbbfilemaaRows
import Derived.Test.YtfgjpmbbfilemaaOpenOp
import Derived.Test.YtfgjpmbbfilemaaTapeAlive
import Derived.Test.YtfgjpmbbfilemaaTapeActW
namespace Go.Proofs.Ytfgjpmbbfilemaa.tapePlays
open Go.ChangeShapes Go.WideShapes Go.ChangeAt Go.RowKit
set_option linter.unusedVariables false
set_option linter.unusedSimpArgs false

/-- How the k-th operation lies. -/
theorem op_at {w : World} {A : Option Addr} {l : List OpV} {k : Nat} {o : OpV} (h : Sl w w.heap.size 4 A l.length (l.flatMap OpV.cells)) (hk : l[k]? = some o) :
    ∃ b off, A = some ⟨b, off, none⟩ ∧ b < w.heap.size ∧ w.cell? ⟨b, off + k * 4, none⟩ = some (.int .i64 o.k) ∧ w.cell? ⟨b, off + k * 4 + 1, none⟩ = some (.int .i64 o.n) ∧ w.cell? ⟨b, off + k * 4 + 2, none⟩ = some (.int .i64 o.m) ∧ w.cell? ⟨b, off + k * 4 + 3, none⟩ = some (.slice o.A o.b.length o.c) := by
  have hl : k < l.length := (List.getElem?_eq_some_iff.1 hk).1
  obtain ⟨b, off, hA, hb, hc⟩ := h.at_ (by omega)
  have g := fun j (hj : j < 4) => flat_get OpV.cells (s := 4) (fun _ => rfl) l k o j hk hj
  refine ⟨b, off, hA, hb, ?_, ?_, ?_, ?_⟩
  · exact hc (k * 4) _ (by have := g 0 (by omega); simpa [OpV.cells] using this)
  · rw [Nat.add_assoc]; exact hc (k * 4 + 1) _ (by have := g 1 (by omega); simpa [OpV.cells] using this)
  · rw [Nat.add_assoc]; exact hc (k * 4 + 2) _ (by have := g 2 (by omega); simpa [OpV.cells] using this)
  · rw [Nat.add_assoc]; exact hc (k * 4 + 3) _ (by have := g 3 (by omega); simpa [OpV.cells] using this)

theorem both_alike {w : World} {B p m : Nat} {sv lv : Value} {f n : List UInt8 × Nat} {st : List (List UInt8 × Nat)} (h : Both w B p sv m lv f n st) (hn : st.length ≤ 1000000) :
    Calls Try.prog 15 #[.pointer (some ⟨p, 0, none⟩), .pointer (some ⟨m, 0, none⟩)] w fun e w' => e = .returned (.bool true) ∧ Below w.heap.size w w' :=
  alike_any p sv f n st m lv (f :: st) w h.t h.r (by simp) hn h.last
theorem both_act (o : OpV) {w : World} {B p m : Nat} {sv lv : Value} {f n : List UInt8 × Nat} {st : List (List UInt8 × Nat)} (h : Both w B p sv m lv f n st) (hB : B ≤ w.heap.size) (hn : st.length ≤ 999999) (hM : o.b.length ≤ maxLen) (hs : Sl w B 1 o.A o.b.length (bts o.b)) :
    Calls Try.prog 16 #[.agg #[.int .i64 o.k, .int .i64 o.n, .int .i64 o.m, .slice o.A o.b.length o.c], .pointer (some ⟨p, 0, none⟩), .pointer (some ⟨m, 0, none⟩)] w (ActPost w B p m f st.length) := act_any o w h hB hn hM hs
theorem both_new {w w1 w2 : World} {B p2 m2 : Nat} {lv2 : Value} {c : List UInt8 × Nat} (hB : B ≤ w.heap.size) (t : TapeAt w1 p2 (.slice none 0 0) c c []) (hp : w.heap.size ≤ p2) (b1 : Below w.heap.size w w1) (r : RefAt w2 m2 lv2 [c]) (k : Kept w1.heap.size m2 lv2) (b2 : Below w1.heap.size w1 w2) :
    Both w2 B p2 (.slice none 0 0) m2 lv2 c c [] :=
  ⟨t.below b2 (Nat.le_refl _), r, rfl, ⟨Nat.le_trans hB hp, fun k h => by cases h⟩, ⟨Nat.le_trans hB (Nat.le_trans b1.size k.1), fun j h => Nat.le_trans hB (Nat.le_trans b1.size (k.2 j h))⟩⟩

set_option maxHeartbeats 8000000 in
theorem walk (A : Option Addr) (l : List OpV) (c : Nat) (hl : l.length ≤ c) (hcm : c ≤ maxLen) {w : World} (hA : Sl w w.heap.size 4 A l.length (l.flatMap OpV.cells)) (hg : ∀ o ∈ l, OpV.good w o) (_ : World) :
    Calls Try.prog 4 #[.slice A l.length c] w fun e w' => e = .returned (.bool true) ∧ Below w.heap.size w w' := by
  have HN := Lib.hid (fun w => new_any w)
  have HR := Lib.hid (fun w => rnew_any w)
  have HV := Lib.hid (fun w => alive_any w)
  have HS := Lib.hid hA
  have HG := Lib.hid hg
  clear hA hg
  unfold maxLen at hcm
  go_enter Try.func4, Try.ntmps4
  go_wp2_with fail
  with_reducible refine (HN.out _).mono ?_
  rintro e w1 ⟨rfl, b1, hlt, t1⟩
  go_wp2_with fail
  with_reducible refine (HR.out _).mono ?_
  rintro e w2 ⟨m0, lv0, rfl, r2, k2, hm0, b2⟩
  have hb2 := step_b b1 b2
  have BT : Both w2 w.heap.size w.heap.size (.slice none 0 0) m0 lv0 ([], 0) ([], 0) [] := ⟨t1.below b2 (Nat.le_refl _), r2, rfl, ⟨Nat.le_refl _, fun k h => by cases h⟩, ⟨Nat.le_trans b1.size k2.1, fun k h => Nat.le_trans b1.size (k2.2 k h)⟩⟩
  clear t1 r2 k2
  go_wp2_with fail
  with_reducible refine (HV.out _).mono ?_
  rintro e w3 ⟨rfl, b3⟩
  have BT3 := Lib.hid (BT.below b3 (Nat.le_refl _))
  have hb3 := step_b hb2 b3
  clear BT b1 b2 b3 hb2
  go_wp2_with fail
  go_loopw [5, 3, 4] (fun i t m wr => ∃ (k p m' : Nat) (sv lv : Value) (f n : List UInt8 × Nat) (st : List (List UInt8 × Nat)), k ≤ 60 ∧ k ≤ l.length ∧ i = .int .i64 k ∧ t = .pointer (some ⟨p, 0, none⟩) ∧ m = .pointer (some ⟨m', 0, none⟩) ∧ Both wr w.heap.size p sv m' lv f n st ∧ st.length ≤ k ∧ Below w.heap.size w wr) (fun i _ _ _ => 60 - (intOf i).toNat)
  case atStart => exact ⟨0, _, _, _, _, _, _, _, by omega, by omega, rfl, rfl, rfl, BT3.out, by simp, hb3⟩
  case round =>
    obtain ⟨k, p, m', sv, lv, f, n, st, hk, hkl, rfl, rfl, rfl, hbt, hst, hbel⟩ := hrel
    have hz := hbel.size
    by_cases hlt : k < l.length ∧ k < 60
    · obtain ⟨hk1, hk2⟩ := hlt
      have e1 : (k : Int) < (l.length : Int) := by omega
      have e2 : (k : Int) < 60 := by omega
      obtain ⟨o, ho⟩ : ∃ o, l[k]? = some o := ⟨_, List.getElem?_eq_getElem hk1⟩
      have hgo := HG.out o (List.mem_of_getElem? ho)
      obtain ⟨b, off, rfl, hb, c0, c1, c2, c3⟩ := op_at ((HS.out.below hbel).more hz) ho
      have HSL := Lib.hid (hgo.sl)
      have HB := Lib.hid hbt
      have hw2 := bounds_i64 hgo.n
      have hw3 := bounds_i64 hgo.m
      clear ho hgo hbt
      by_cases hbig : 1000 < o.b.length
      · have e3 : decide ((1000 : Int) < (o.b.length : Int)) = true := by simp; omega
        go_wp2_with fail
        go_roundw
        case rel => exact ⟨k + 1, p, m', sv, lv, f, n, st, by omega, by omega, by go_num, rfl, rfl, HB.out.below (Below.alloc (Below.refl _ _) (Nat.le_refl _) _) (Nat.le_refl _), by omega, hbel.alloc hz _⟩
        case measure => simp [intOf]; omega
      · have e3 : decide ((1000 : Int) < (o.b.length : Int)) = false := by simp; omega
        by_cases h4 : o.k = 4
        · have e4 : (o.k == 4) = true := by simp [h4]
          have hw0 : Below wr.heap.size wr (wr.alloc (.cells #[.int .i64 o.k, .int .i64 o.n, .int .i64 o.m, .slice o.A o.b.length o.c] 35)) := Below.alloc (Below.refl _ _) (Nat.le_refl _) _
          have hbk := Bk.new wr 35 #[.int .i64 o.k, .int .i64 o.n, .int .i64 o.m, .slice o.A o.b.length o.c]
          have HBW0 := step_b hbel hw0
          have bw := HB.out.below hw0 (Nat.le_refl _)
          have HBw := Lib.hid bw
          have HCut := Lib.hid (cut_any p sv f n st o.n o.m _ bw.t (by omega) (by omega) (by omega))
          clear bw hw0 h4
          go_wp2_with fail
          with_reducible refine HCut.out.mono ?_
          rintro e w5 ⟨p2, rfl, t5, b5, hp2, _⟩
          have hbk5 := hbk.below b5 hbk.lt
          have c51 := hbk5.cell 1
          have c52 := hbk5.cell 2
          have HRCut := Lib.hid (rcut_any m' lv (f :: st) f st o.n o.m w5 rfl (HBw.out.r.below b5 (Nat.le_refl _)) (by omega) (by omega) (by omega))
          go_wp2_with fail
          with_reducible refine HRCut.out.mono ?_
          rintro e w6 ⟨m2, lv2, rfl, r6, k6, _, b6⟩
          have hbk6 := hbk5.below b6 hbk5.lt
          have HNew := Lib.hid (both_new (Nat.le_trans hz (Nat.le_trans (Nat.le_of_lt hbk.lt) (Nat.le_refl _)) |> fun _ => HBW0.size) t5 hp2 b5 r6 k6 b6)
          have HAl0 := Lib.hid (both_alike ((HBw.out.below b5 (Nat.le_refl _)).below b6 (Nat.le_refl _)) (by omega))
          have HBW1 := step_b (step_b HBW0 b5) b6
          clear t5 r6 k6 hbk hbk5 c51 c52 b5 b6 HBW0
          go_wp2_with fail
          with_reducible refine HAl0.out.mono ?_
          rintro e w7 ⟨rfl, b7⟩
          have hbk7 := hbk6.below b7 hbk6.lt
          have c70 := hbk7.cell 0
          have c71 := hbk7.cell 1
          have c72 := hbk7.cell 2
          have c73 := hbk7.cell 3
          have HBW := step_b HBW1 b7
          have HAct := Lib.hid (both_act o (HNew.out.below b7 (Nat.le_refl _)) HBW.size (by simp) (by unfold maxLen; omega) (HSL.out.below HBW))
          clear hbk6 b7 HBW1
          go_wp2_with fail
          with_reducible refine HAct.out.mono ?_
          rintro e w5 ⟨r, rfl, hd, b5⟩
          obtain ⟨sv5, lv5, n5, st5, bo5, hst5⟩ := hd
          rw [List.length_nil] at hst5
          have B5 := Lib.hid bo5
          have HAl := Lib.hid (both_alike bo5 (by omega))
          have hb5 := HBW.trans b5
          clear bo5 b5
          have e6 : ((r : Int) != r) = false := by simp
          go_wp2_with fail
          with_reducible refine HAl.out.mono ?_
          rintro e w6 ⟨rfl, b6⟩
          have hb6 := step_b hb5 b6
          have B6 := Lib.hid (B5.out.below b6 (Nat.le_refl _))
          clear b6 hb5
          go_wp2_with fail
          go_roundw
          case rel => exact ⟨k + 1, _, _, sv5, lv5, _, n5, st5, by omega, by omega, by go_num, rfl, rfl, B6.out, by omega, hb6⟩
          case measure => simp [intOf]; omega
        · have e4 : (o.k == 4) = false := by simp [h4]
          have hw0 : Below wr.heap.size wr (wr.alloc (.cells #[.int .i64 o.k, .int .i64 o.n, .int .i64 o.m, .slice o.A o.b.length o.c] 35)) := Below.alloc (Below.refl _ _) (Nat.le_refl _) _
          have HBW := step_b hbel hw0
          have HAct := Lib.hid (both_act o (HB.out.below hw0 (Nat.le_refl _)) (Nat.le_trans hz hw0.size) (by omega) (by unfold maxLen; omega) (HSL.out.below HBW))
          clear hw0 h4
          go_wp2_with fail
          with_reducible refine HAct.out.mono ?_
          rintro e w5 ⟨r, rfl, hd, b5⟩
          obtain ⟨sv5, lv5, n5, st5, bo5, hst5⟩ := hd
          have B5 := Lib.hid bo5
          have HAl := Lib.hid (both_alike bo5 (by omega))
          have hb5 := HBW.trans b5
          clear bo5 b5
          have e6 : ((r : Int) != r) = false := by simp
          go_wp2_with fail
          with_reducible refine HAl.out.mono ?_
          rintro e w6 ⟨rfl, b6⟩
          have hb6 := step_b hb5 b6
          have B6 := Lib.hid (B5.out.below b6 (Nat.le_refl _))
          clear b6 hb5
          go_wp2_with fail
          go_roundw
          case rel => exact ⟨k + 1, _, _, sv5, lv5, _, n5, st5, by omega, by omega, by go_num, rfl, rfl, B6.out, by omega, hb6⟩
          case measure => simp [intOf]; omega
    · rcases Nat.lt_or_ge k l.length with h1 | h1
      · have e2 : (k : Int) < (l.length : Int) := by omega
        have h60 : ¬ k < 60 := fun h => hlt ⟨h1, h⟩
        have e3 : decide ((k : Int) < 60) = false := by simp; omega
        clear hlt
        go_wp2_with fail
        go_ret
        exact ⟨rfl, hbel⟩
      · have e2 : decide ((k : Int) < (l.length : Int)) = false := by simp; omega
        go_wp2_with fail
        go_ret
        exact ⟨rfl, hbel⟩

set_option maxRecDepth 100000 in
theorem lifted (os : Os) (started : os.Started) (H : Type) (enc : TypeId × Value → H) :
    ReturnsInHanded {} Try.checked os 4 .any (Rows.tapePlaysSpec.pre6 enc Try.prog Try.f4 Rows.tapePlaysRow.domain false) (Rows.tapePlaysSpec.post enc Try.prog Try.f4 false true false false) := by
  refine returnsInHanded_of_change (C := Try.checked) own started (by kernel_rfl) Try.func4
    (ChangeSpec.witness6 (enc := enc) (C := Try.checked) false ⟨#[], #[.slice none 0 0], []⟩ 8 (by kernel_rfl) (by kernel_rfl) (by kernel_rfl) (by kernel_rfl)) ?_
  intro W base args ds gs before hval0 hW hcnd _
  have hval : ∀ (j : Nat) t v, Try.f4.params[j]? = some t → args[j]? = some v → Value.okWide Try.prog W .any base t v := hval0
  have hW' := hW
  obtain ⟨p, q, hA0, hV, rfl, hfz, hnd⟩ := hW
  have hA : DataW.TrodAll enc Try.prog W 0 (fun _ => true) true Try.f4.params.toList args.toList ds p := hA0
  rw [Try.params4] at hA hval
  obtain ⟨v0, vs0, d0, ds0, p0, q0, hargs, rfl, rfl, h0, r0⟩ := trodAll_cons hA
  obtain ⟨rfl, rfl, rfl⟩ := trodAll_nil r0
  obtain rfl : args = #[v0] := by cases args; simp_all
  obtain ⟨rfl, rfl⟩ := trodVars_none hV
  have k0 := h0
  have lt0 : ∀ x ∈ p0, x.block < W.heap.size := by obtain ⟨m, hm⟩ := k0; exact DataW.trod_lt m _ _ _ hm
  obtain ⟨A0, l0, c0, rfl, u0, m0, s0, g0⟩ := open_ops (hval 0 31 v0 rfl rfl) h0
  clear hA0 hval0
  refine (walk A0 l0 c0 u0 m0 s0 g0 W).mono fun e W' ⟨he, bel⟩ => ?_
  subst he
  exact ⟨_, rfl, _, _, _, [], _, [], hW', trodAll_mk1 (shut_bool Try.underlying4 _), (trodAll_cons_mk (Below.trod laidOut (by kernel_rfl) (of_decide_eq_true (by kernel_rfl)) k0 bel lt0) trodAll_mk0), rfl, bel.frame _, fun h => by cases h⟩

theorem over : Rows.tapePlaysRow.holds Try.pinned (OpenSpec.ofChange Rows.tapePlaysSpec) :=
  OpenClaim.holds_of_wide 4 Try.f4 rfl rfl rfl rfl rfl rfl rfl ⟨rfl, rfl, rfl, rfl, rfl⟩ rfl rfl rfl rfl rfl (by kernel_rfl) Try.func4 (by kernel_rfl)
    (of_decide_eq_true (by kernel_rfl)) (by unfold Func.isWrapper; first | (rw [if_pos (by decide +kernel)]; kernel_rfl) | (rw [if_neg (by decide +kernel)]; exact ⟨rfl, rfl⟩))
    (fun os started H enc _ => lifted os started H enc)

/-- The statement. -/
theorem proved : Rows.TapePlaysSaid := over
#print axioms proved
end Go.Proofs.Ytfgjpmbbfilemaa.tapePlays

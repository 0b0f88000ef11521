/- What this text proves: the statement TapeOwn: for every two slices of bytes the law returns true and leaves its arguments as they were. No condition. -/
import Derived.Test.YtfgjpmbbfilemaaRows
import Derived.Test.YtfgjpmbbfilemaaOwn
import Derived.Test.YtfgjpmbbfilemaaOpenRow
import Derived.Test.YtfgjpmbbfilemaaTapeOwnParts
import Derived.Deep.CutBlock
import Derived.Deep.DeepCutAuto
namespace Go.Proofs.Ytfgjpmbbfilemaa.tapeOwn
open Go.ChangeShapes Go.WideShapes Go.ChangeAt Go.RowKit
set_option linter.unusedVariables false
set_option linter.unusedSimpArgs false

set_option maxRecDepth 100000 in
set_option maxHeartbeats 16000000 in
theorem walk (A : Option Addr) (l : List UInt8) (c : Nat) (hl : l.length ≤ c) (hcm : c ≤ maxLen) {w : World} (hA : Sl w w.heap.size 1 A l.length (bts l))
    (A' : Option Addr) (l' : List UInt8) (c' : Nat) (hl' : l'.length ≤ c') (hcm' : c' ≤ maxLen) (hA' : Sl w w.heap.size 1 A' l'.length (bts l')) (_ : World) :
    Calls Try.prog 3 #[.slice A l.length c, .slice A' l'.length c'] w fun e w' => e = .returned (.bool true) ∧ Below w.heap.size w w' := by
  obtain ⟨i0, hi, hz0, hz1, hz2⟩ := info_parts info_u8
  have HN := Lib.hid (fun w => new_bk w)
  have HV := Lib.hid (fun w => alive_any w)
  have HS := Lib.hid hA
  have HS' := Lib.hid hA'
  obtain ⟨L, hL⟩ : ∃ L, l.length = L := ⟨_, rfl⟩
  obtain ⟨L', hL'⟩ : ∃ L', l'.length = L' := ⟨_, rfl⟩
  rw [hL] at HS hl ⊢
  rw [hL'] at HS' hl' ⊢
  have HL := Lib.hid hL
  have HL' := Lib.hid hL'
  clear hA hA' hL hL'
  unfold maxLen at hcm hcm'
  by_cases hbig : 1000 < L ∨ 1000 < L'
  · by_cases h1 : 1000 < L
    · have e1 : decide ((1000 : Int) < (L : Int)) = true := by simp; omega
      clear hbig
      go_enter Try.func3, Try.ntmps3
      go_wp2_with fail
      with_reducible refine (HN.out w).mono ?_
      rintro e w1 ⟨rfl, b1, t1⟩
      clear t1
      go_wp2_with fail
      with_reducible refine (HV.out _).mono ?_
      rintro e w2 ⟨rfl, b2⟩
      go_wp2_with fail
      go_ret
      exact ⟨rfl, step_b b1 b2⟩
    · have e1 : decide ((1000 : Int) < (L : Int)) = false := by simp; omega
      have e2 : decide ((1000 : Int) < (L' : Int)) = true := by simp; omega
      clear hbig
      go_enter Try.func3, Try.ntmps3
      go_wp2_with fail
      with_reducible refine (HN.out w).mono ?_
      rintro e w1 ⟨rfl, b1, t1⟩
      clear t1
      go_wp2_with fail
      with_reducible refine (HV.out _).mono ?_
      rintro e w2 ⟨rfl, b2⟩
      go_wp2_with fail
      go_ret
      exact ⟨rfl, step_b b1 b2⟩
  · have e1 : decide ((1000 : Int) < (L : Int)) = false := by simp; omega
    have e2 : decide ((1000 : Int) < (L' : Int)) = false := by simp; omega
    have hL1 : L ≤ 1000 := by omega
    have hL2 : L' ≤ 1000 := by omega
    clear hbig
    go_enter Try.func3, Try.ntmps3
    go_wp2_with fail
    with_reducible refine (HN.out w).mono ?_
    rintro e w1 ⟨rfl, b1, t1⟩
    have T1 := Lib.hid t1
    clear t1
    go_wp2_with fail
    with_reducible refine (HV.out _).mono ?_
    rintro e w2 ⟨rfl, b2⟩
    have b2' := step_b b1 b2
    have T2 := Lib.hid (T1.out.below b2 T1.out.lt)
    have hpw : w.heap.size < w2.heap.size := T2.out.lt
    clear b1 b2
    have hb0 : Below w2.heap.size w2 (w2.alloc (.cells #[] 5)) := Below.alloc (Below.refl _ _) (Nat.le_refl _) _
    go_wp2_with (at_builtin; refine wpList_append_sl (w2.alloc (.cells #[] 5)) rfl _ _ 22 rfl w2.heap.size 5 i0 _ 1 1 Try.underlying22 hi hz0 hz1 hz2 rfl (by decide) (.slice (some ⟨w2.heap.size, 0, none⟩) 0 0) 0 [] rfl (own_empty _ _) A L c (bts l) rfl ((HS.out.below (b2'.trans (hb0.mono (Nat.le_of_lt hpw)))).more (Nat.le_trans (Nat.le_of_lt hpw) hb0.size)) bts_one (by unfold maxLen; omega) (by omega) hb0.size ?_; intro v3 w3 hown hgrow _)
    have hown' : w3.ownsRow w2.heap.size 5 1 v3 L (bts l) := by simpa using hown
    have hb3 : Below w2.heap.size w2 w3 := hb0.grown hgrow hb0.size (fun k e => by cases e; exact Nat.le_refl _)
    have hz3 : w2.heap.size < w3.heap.size := by have := hgrow.size; simp at this; omega
    obtain ⟨A3, c3, g, rfl, hc31, hc32, hg1, hg2, hsl3, hrow3⟩ := byteRow_own hown' hz3
    have T3 := T2.out.below hb3 hpw
    have HApp := Lib.hid (append_first w.heap.size A3 l L c3 w3 T3 HL.out hL1 hsl3)
    have hbw3 : Below w.heap.size w w3 := b2'.trans (hb3.mono (Nat.le_of_lt hpw))
    have HROW := Lib.hid hrow3
    clear hown hgrow hown' hsl3 hrow3 T3 hb3 b2' hb0
    with_reducible refine HApp.out.mono ?_
    rintro e w4 ⟨v4, sv, rfl, q1, q2, q3, q4, q5, q6⟩
    have hL1' : l.length ≤ 1000 := by have := HL.out; omega
    have HCut := Lib.hid (show Calls Try.prog 10 #[.pointer (some ⟨w.heap.size, 0, none⟩), .int .i64 1, .int .i64 (L : Int)] w4 (CutPost w4 (l, l.length)) from by
      rw [← HL.out, ← cut_whole]
      exact cut_any w.heap.size sv _ _ _ 1 (l.length : Int) w4 (tape_first q1 q2 q3 (by omega)) (by simp) (by omega) (by omega))
    have hbw4 : Below w.heap.size w w4 := hbw3.trans (q6.to_below (by have := hbw3.size; omega) (fun k o h => Nat.le_of_eq h.symm))
    have ROW4 := Lib.hid (HROW.out.moves q6 (fun _ h => by omega))
    have OI := Lib.hid (fun (w5 : World) (p' : Nat) (u m : Value) hb hx hu hf => OwnInv.start (w5 := w5) (p' := p') (u := u) (m := m) q1 q2 q3 q4 q5 hb hx hu hf hg2 q6.size (by omega))
    clear q1 q2 q3 q4 q5 q6
    go_wp2_with fail
    with_reducible refine HCut.out.mono ?_
    rintro e w5 ⟨p', rfl, t5, b5, hp5, hp5', u, m, hu, hfu⟩
    have OI5 := Lib.hid (OI.out w5 p' u (.int .i64 m) b5 t5 hu hfu hp5)
    have ROW5 := Lib.hid (ROW4.out.moves (Moves.below (fun _ _ => False) b5 (Nat.le_refl _)) (fun _ h => h))
    have hbw5 : Below w.heap.size w w5 := hbw4.trans (b5.mono hbw4.size)
    have hg5 : g < w5.heap.size := by have := OI5.out.p'; omega
    have hwg : w.heap.size ≤ g := by omega
    clear t5 b5 hu hfu OI ROW4 hbw3 hbw4 HApp HCut
    go_wp2_with fail
    go_loopw [8] (fun i wr => ∃ k : Nat, k ≤ L ∧ i = .int .i64 k ∧ Moves (fun q _ => q = g) w5 wr ∧ ByteRow wr A3 L g 0) (fun i _ => L - (intOf i).toNat)
    case atStart => exact ⟨0, by omega, rfl, Moves.refl _ _, ROW5.out⟩
    case round =>
      obtain ⟨k, hk, rfl, hm, hrow⟩ := hrel
      by_cases hlt : k < L
      · obtain ⟨n, rfl, hc, hf⟩ := hrow.at_ hlt
        rw [Nat.zero_add] at hc hf
        have HM := Lib.hid hm
        have HRo := Lib.hid hrow
        clear hm hrow
        go_wp2_with fail
        go_roundw
        case rel => exact ⟨k + 1, by omega, by go_num, HM.out.trans_ (Moves.setCell _ _ _ (fun _ _ => rfl)) (fun _ _ _ h => h), by have := HRo.out.set_ (k := k); simp only [Nat.zero_add] at this; exact this _⟩
        case measure => simp [intOf]; omega
      · have e3 : decide ((k : Int) < (L : Int)) = false := by simp; omega
        have OI6 := Lib.hid (OI5.out.moves hm)
        have hbw6 : Below w.heap.size w wr := hbw5.trans (hm.to_below hbw5.size (fun q _ h => by omega))
        have hz6 : w5.heap.size ≤ wr.heap.size := hm.size
        have HRe := Lib.hid (read_any w.heap.size sv _ _ _ wr (OI6.out.tape hL1'))
        clear hm hrow ROW5 OI5
        go_wp2_with fail
        with_reducible refine HRe.out.mono ?_
        rintro e w7 ⟨v7, rfl, hr7, b7, hf7⟩
        obtain ⟨w6, rfl⟩ : ∃ w6 : World, w6 = wr := ⟨_, rfl⟩
        obtain ⟨A7, c7, g2, off, rfl, hc71, hc72, hg7, hrow7⟩ := byteRow_rd hr7 hf7
        rw [HL.out] at hc71 hrow7
        rw [HL.out]
        have ROW7 := Lib.hid hrow7
        have B7 := Lib.hid b7
        have hg77 : w6.heap.size ≤ g2 := hg7
        clear hr7 hf7 hrow7 b7
        go_wp2_with fail
        go_loopw [10] (fun i w8 => ∃ k : Nat, k ≤ L ∧ i = .int .i64 k ∧ Moves (fun q _ => q = g2) w7 w8 ∧ ByteRow w8 A7 L g2 off) (fun i _ => L - (intOf i).toNat)
        case atStart => exact ⟨0, by omega, rfl, Moves.refl _ _, ROW7.out⟩
        case round =>
          obtain ⟨k', hk', rfl, hm, hrow⟩ := hrel
          by_cases hlt' : k' < L
          · obtain ⟨n, rfl, hc, hf⟩ := hrow.at_ hlt'
            have HM := Lib.hid hm
            have HRo := Lib.hid hrow
            clear hm hrow
            go_wp2_with fail
            go_roundw
            case rel => exact ⟨k' + 1, by omega, by go_num, HM.out.trans_ (Moves.setCell _ _ _ (fun _ _ => rfl)) (fun _ _ _ h => h), HRo.out.set_ (k := k') _⟩
            case measure => simp [intOf]; omega
          · have e4 : decide ((k' : Int) < (L : Int)) = false := by simp; omega
            have hb8 : Below w6.heap.size w6 wr := B7.out.trans (hm.to_below B7.out.size (fun q _ h => by omega))
            have hbw8 : Below w.heap.size w wr := hbw6.trans (hb8.mono hbw6.size)
            have t8 := (OI6.out.tape hL1').below hb8 (Nat.le_refl _)
            have x8 := (OI6.out.other hL1').below hb8 (Nat.le_refl _)
            have hsv : ∀ k, sv.ownBlock = some k → k < wr.heap.size ∧ w.heap.size ≤ k := fun k h => by
              obtain ⟨cs, o1, _⟩ := t8.own
              have := OI6.out.sv k h
              have := OI6.out.p
              exact ⟨(own_cells o1 h).2.1, by omega⟩
            have hwp : w.heap.size ≤ p' := by have := OI6.out.p'; have := OI6.out.p; omega
            have hpp : w.heap.size ≠ p' := by have := OI6.out.p'; have := OI6.out.p; omega
            have HL8 : l.length + l'.length ≤ 1048576 := by have := HL'.out; omega
            have hS8 : Sl wr wr.heap.size 1 A' l'.length (bts l') := by rw [HL'.out]; exact (HS'.out.below hbw8).more hbw8.size
            have HX := Lib.hid (append_ok' p' _ _ _ _ A' l' L' c' wr HL'.out x8 HL8 hS8 (by simp))
            have TT8 := Lib.hid t8
            have XX8 := Lib.hid x8
            have HSV := Lib.hid hsv
            clear hm hrow ROW7 OI6 hS8 t8 x8 hsv
            go_wp2_with fail
            with_reducible refine HX.out.mono ?_
            rintro e w9 ⟨svx, rfl, tx9, mx, kx⟩
            have hbw9 : Below w.heap.size w w9 := hbw8.trans (mx.to_below hbw8.size (fun q o h => by
              rcases h with h | h
              · omega
              · cases h))
            have t9 := other_stays TT8.out XX8.out mx hpp (fun k _ h => by cases h)
            have hS9 : Sl w9 w9.heap.size 1 A' l'.length (bts l') := by rw [HL'.out]; exact (HS'.out.below hbw9).more hbw9.size
            have HT := Lib.hid (append_ok' w.heap.size sv _ _ _ A' l' L' c' w9 HL'.out t9 HL8 hS9 (by simp))
            have TT9 := Lib.hid t9
            have XX9 := Lib.hid tx9
            have HKX := Lib.hid (fun k (h : svx.ownBlock = some k) => (kx k h).resolve_left (fun h => by cases h))
            have hz9 := mx.size
            clear mx kx tx9 t9 hS9 HX TT8 XX8
            go_wp2_with fail
            with_reducible refine HT.out.mono ?_
            rintro e w10 ⟨sv10, rfl, t10, mt, kt⟩
            have hbw10 : Below w.heap.size w w10 := hbw9.trans (mt.to_below hbw9.size (fun q o h => by
              rcases h with h | h
              · omega
              · exact (HSV.out q h.symm).2))
            have x10 := other_stays XX9.out TT9.out mt hpp.symm (fun k h e => by have := HKX.out k h; have := (HSV.out k e).1; omega)
            have hb11 : Below w10.heap.size w10 (w10.alloc (.cells #[] 5)) := Below.alloc (Below.refl _ _) (Nat.le_refl _) _
            have hbw11 := step_b hbw10 hb11
            have TT10 := Lib.hid t10
            have XX10 := Lib.hid x10
            clear mt kt t10 x10 TT9 XX9 HT HKX HSV hbw9 hbw8 hb8
            go_wp2_with (first
              | (at_builtin; refine wpList_append_sl (w10.alloc (.cells #[] 5)) rfl (.tmp 76) (.tmp 77) 22 rfl w10.heap.size 5 i0 _ 1 1 Try.underlying22 hi hz0 hz1 hz2 rfl (by decide) (.slice (some ⟨w10.heap.size, 0, none⟩) 0 0) 0 [] rfl (own_empty _ _) A L c (bts l) rfl ((HS.out.below hbw11).more hbw11.size) bts_one (by unfold maxLen; omega) (by omega) hb11.size ?_; intro v11 w11 hown hgrow _; have hown11 := Lib.hid hown; have hb12 : Below w10.heap.size w10 w11 := hb11.grown hgrow hb11.size (fun k e => by cases e; exact Nat.le_refl _); have hbw12 := step_b hbw10 hb12; clear hown hgrow)
              | (at_builtin; refine wpList_append_sl w11 rfl (.tmp 78) (.tmp 79) 22 rfl w10.heap.size 5 i0 _ 1 1 Try.underlying22 hi hz0 hz1 hz2 rfl (by decide) v11 (0 + L) ([] ++ bts l) rfl hown11.out A' L' c' (bts l') rfl ((HS'.out.below hbw12).more hbw12.size) bts_one (by unfold maxLen; omega) (by omega) hb12.size ?_; intro v13 w13 hown hgrow hat13; have hown13 := Lib.hid hown; have hb13 : Below w10.heap.size w10 w13 := hb12.grown hgrow hb12.size (fun k e => (own_cells hown11.out e).1); clear hown hgrow hat13))
            have hall : w13.ownsRow w10.heap.size 5 1 v13 (L + L') (bts (l ++ l')) := by
              have := hown13.out
              rw [Nat.zero_add, List.nil_append, ← bts_app] at this
              exact this
            obtain ⟨A13, c13, rfl, _, _, hs13⟩ := own_sl hall
            have hM : (l ++ l').length = L + L' := by rw [List.length_append, HL.out, HL'.out]
            have t13 := TT10.out.below hb13 (Nat.le_refl _)
            have x13 := XX10.out.below hb13 (Nat.le_refl _)
            have hbw13 := step_b hbw10 hb13
            have HR1 := Lib.hid (read_any w.heap.size sv10 _ _ _ w13 t13)
            have XX13 := Lib.hid x13
            have HS13 := Lib.hid hs13
            have HM := Lib.hid hM
            clear hall hown13 hown11 TT10 XX10 t13 x13 hs13 hM hb12 hb13 hbw12 hb11 hbw11
            with_reducible refine HR1.out.mono ?_
            rintro e w14 ⟨v14, rfl, hr14, b14, _⟩
            obtain ⟨A14, c14, rfl, _, _, hs14⟩ := hr14.sl
            rw [bts_len, HM.out] at hs14
            rw [bts_len, HM.out]
            have HSame := Lib.hid (same02_yes A14 A13 (l ++ l') (L + L') (L + L') c14 c13 w14 HM.out HM.out hs14 ((HS13.out.below b14).more b14.size))
            have HR2 := Lib.hid (fun W (hb : Below w14.heap.size w14 W) => read_any p' svx _ _ _ W ((XX13.out.below b14 (Nat.le_refl _)).below hb (Nat.le_refl _)))
            have HS14 := Lib.hid ((HS13.out.below b14).more b14.size)
            have hbw14 := step_b hbw13 b14
            clear hr14 hs14 b14 XX13 HS13 HR1
            go_wp2_with fail
            with_reducible refine HSame.out.mono ?_
            rintro e w15 ⟨rfl, b15⟩
            go_wp2_with fail
            with_reducible refine (HR2.out _ b15).mono ?_
            rintro e w16 ⟨v16, rfl, hr16, b16, _⟩
            obtain ⟨A16, c16, rfl, _, _, hs16⟩ := hr16.sl
            rw [bts_len, HM.out] at hs16
            rw [bts_len, HM.out]
            have b16' := step_b b15 b16
            have HSame2 := Lib.hid (same02_yes A16 A13 (l ++ l') (L + L') (L + L') c16 c13 w16 HM.out HM.out hs16 ((HS14.out.below b16').more b16'.size))
            have hbw16 := step_b hbw14 b16'
            clear hr16 hs16 b16 b15 b16' HS14
            go_wp2_with fail
            with_reducible refine HSame2.out.mono ?_
            rintro e w17 ⟨rfl, b17⟩
            go_wp2_with fail
            go_ret
            exact ⟨rfl, step_b hbw16 b17⟩

set_option maxRecDepth 100000 in
theorem lifted (os : Os) (started : os.Started) (H : Type) (enc : TypeId × Value → H) :
    ReturnsInHanded {} Try.checked os 3 .any (Rows.tapeOwnSpec.pre6 enc Try.prog Try.f3 Rows.tapeOwnRow.domain false) (Rows.tapeOwnSpec.post enc Try.prog Try.f3 false true false false) := by
  refine returnsInHanded_of_change (C := Try.checked) own started (by kernel_rfl) Try.func3
    (ChangeSpec.witness6 (enc := enc) (C := Try.checked) false ⟨#[], #[.slice none 0 0, .slice none 0 0], []⟩ 8 (by kernel_rfl) (by kernel_rfl) (by kernel_rfl) (by kernel_rfl)) ?_
  intro W base args ds gs before hval0 hW hcnd _
  have hval : ∀ (j : Nat) t v, Try.f3.params[j]? = some t → args[j]? = some v → Value.okWide Try.prog W .any base t v := hval0
  have hW' := hW
  obtain ⟨p, q, hA0, hV, rfl, hfz, hnd⟩ := hW
  have hA : DataW.TrodAll enc Try.prog W 0 (fun _ => true) true Try.f3.params.toList args.toList ds p := hA0
  rw [Try.params3] at hA hval
  obtain ⟨v0, vs0, d0, ds0, p0, q0, hargs, rfl, rfl, h0, r0⟩ := trodAll_cons hA
  obtain ⟨v1, vs1, d1, ds1, p1, q1, rfl, rfl, rfl, h1, r1⟩ := trodAll_cons r0
  obtain ⟨rfl, rfl, rfl⟩ := trodAll_nil r1
  obtain rfl : args = #[v0, v1] := by cases args; simp_all
  obtain ⟨rfl, rfl⟩ := trodVars_none hV
  have k0 := h0
  have lt0 : ∀ x ∈ p0, x.block < W.heap.size := by obtain ⟨m, hm⟩ := k0; exact DataW.trod_lt m _ _ _ hm
  have k1 := h1
  have lt1 : ∀ x ∈ p1, x.block < W.heap.size := by obtain ⟨m, hm⟩ := k1; exact DataW.trod_lt m _ _ _ hm
  obtain ⟨A0, l0, c0, rfl, u0, m0, s0⟩ := open_bytes (hval 0 22 v0 rfl rfl) h0
  obtain ⟨A1, l1, c1, rfl, u1, m1, s1⟩ := open_bytes (hval 1 22 v1 rfl rfl) h1
  clear hA0 hval0
  refine (walk A0 l0 c0 u0 m0 s0 A1 l1 c1 u1 m1 s1 W).mono fun e W' ⟨he, bel⟩ => ?_
  subst he
  exact ⟨_, rfl, _, _, _, [], _, [], hW', trodAll_mk1 (shut_bool Try.underlying4 _), (trodAll_cons_mk (Below.trod laidOut (by kernel_rfl) (of_decide_eq_true (by kernel_rfl)) k0 bel lt0) (trodAll_cons_mk (Below.trod laidOut (by kernel_rfl) (of_decide_eq_true (by kernel_rfl)) k1 bel lt1) trodAll_mk0)), rfl, bel.frame _, fun h => by cases h⟩

theorem over : Rows.tapeOwnRow.holds Try.pinned (OpenSpec.ofChange Rows.tapeOwnSpec) :=
  OpenClaim.holds_of_wide 3 Try.f3 rfl rfl rfl rfl rfl rfl rfl ⟨rfl, rfl, rfl, rfl, rfl⟩ rfl rfl rfl rfl rfl (by kernel_rfl) Try.func3 (by kernel_rfl)
    (of_decide_eq_true (by kernel_rfl)) (by unfold Func.isWrapper; first | (rw [if_pos (by decide +kernel)]; kernel_rfl) | (rw [if_neg (by decide +kernel)]; exact ⟨rfl, rfl⟩))
    (fun os started H enc _ => lifted os started H enc)

/-- The statement. -/
theorem proved : Rows.TapeOwnSaid := over
#print axioms proved
end Go.Proofs.Ytfgjpmbbfilemaa.tapeOwn

/- What this text proves: the statement TapeSafe: for every two scripts and every operation the law returns true and leaves its arguments as they were. No condition. -/
import Derived.Test.YtfgjpmbbfilemaaRows
import Derived.Test.YtfgjpmbbfilemaaOpenOp
import Derived.Test.YtfgjpmbbfilemaaTapeAlive
import Derived.Test.YtfgjpmbbfilemaaTapeActW
import Derived.Test.YtfgjpmbbfilemaaTapeSafeInv
import Derived.Deep.CutBlock
import Derived.Deep.DeepCutAuto
namespace Go.Proofs.Ytfgjpmbbfilemaa.tapeSafe
open Go.ChangeShapes Go.WideShapes Go.ChangeAt Go.RowKit
set_option linter.unusedVariables false
set_option linter.unusedSimpArgs false

set_option maxRecDepth 100000 in
set_option maxHeartbeats 16000000 in
theorem walk (A : Option Addr) (l : List OpV) (c : Nat) (hl : l.length ≤ c) (hcm : c ≤ maxLen) {w : World} (hA : Sl w w.heap.size 4 A l.length (l.flatMap OpV.cells)) (hg : ∀ o ∈ l, OpV.good w o)
    (A' : Option Addr) (l' : List OpV) (c' : Nat) (hl' : l'.length ≤ c') (hcm' : c' ≤ maxLen) (hA' : Sl w w.heap.size 4 A' l'.length (l'.flatMap OpV.cells)) (hg' : ∀ o ∈ l', OpV.good w o) (o : OpV) (ho : OpV.good w o) (_ : World) :
    Calls Try.prog 5 #[.slice A l.length c, .slice A' l'.length c', .agg o.cells.toArray] w fun e w' => e = .returned (.bool true) ∧ Below w.heap.size w w' := by
  have hc : o.cells.toArray = #[.int .i64 o.k, .int .i64 o.n, .int .i64 o.m, .slice o.A o.b.length o.c] := rfl
  rw [hc]
  have HN := Lib.hid (fun w => new_any w)
  have HR := Lib.hid (fun w => rnew_any w)
  have HV := Lib.hid (fun w => alive_any w)
  have HS := Lib.hid hA
  have HG := Lib.hid hg
  have HS' := Lib.hid hA'
  have HG' := Lib.hid hg'
  have HO := Lib.hid ho
  clear hA hg hA' hg' ho
  unfold maxLen at hcm hcm'
  go_enter Try.func5, Try.ntmps5
  go_wp2_with fail
  have hb0 : Below w.heap.size w (w.alloc (.cells #[.int .i64 o.k, .int .i64 o.n, .int .i64 o.m, .slice o.A o.b.length o.c] 35)) := Below.alloc (Below.refl _ _) (Nat.le_refl _) _
  have hbk := Bk.new w 35 #[.int .i64 o.k, .int .i64 o.n, .int .i64 o.m, .slice o.A o.b.length o.c]
  have hz0 : (w.alloc (.cells #[.int .i64 o.k, .int .i64 o.n, .int .i64 o.m, .slice o.A o.b.length o.c] 35)).heap.size = w.heap.size + 1 := by simp
  obtain ⟨w0, hw0⟩ : ∃ W, w.alloc (.cells #[.int .i64 o.k, .int .i64 o.n, .int .i64 o.m, .slice o.A o.b.length o.c] 35) = W := ⟨_, rfl⟩
  obtain ⟨g, hg⟩ : ∃ g, w.heap.size = g := ⟨_, rfl⟩
  rw [hw0] at hb0 hbk hz0 ⊢
  rw [hg] at hbk
  clear hw0
  with_reducible refine (HN.out w0).mono ?_
  rintro e w1 ⟨rfl, b1, hlt, t1⟩
  obtain ⟨B, hB⟩ : ∃ B, w0.heap.size = B := ⟨_, rfl⟩
  rw [hB] at b1 t1 ⊢
  go_wp2_with fail
  with_reducible refine (HV.out w1).mono ?_
  rintro e w3 ⟨rfl, b3⟩
  go_wp2_with fail
  with_reducible refine (HR.out w3).mono ?_
  rintro e w2 ⟨m0, lv0, rfl, r2, k2, hm0, b2⟩
  have hBz : B ≤ w1.heap.size := by rw [← hB]; exact b1.size
  have hb2 : Below B w0 w2 := (b1.trans (b3.mono hBz)).trans (b2.mono (Nat.le_trans hBz b3.size))
  have BT := Lib.hid (⟨(t1.below b3 (Nat.le_refl _)).below b2 (Nat.le_refl _), r2, rfl, ⟨Nat.le_refl _, fun k h => by cases h⟩, ⟨Nat.le_trans hBz (Nat.le_trans b3.size k2.1), fun k h => Nat.le_trans hBz (Nat.le_trans b3.size (k2.2 k h))⟩⟩ : Both w2 B B (.slice none 0 0) m0 lv0 ([], 0) ([], 0) [])
  have hB0 := Lib.hid hB
  have hwB : w.heap.size < B := by omega
  have HBK := Lib.hid hbk
  have hgB : g < B := by omega
  have HGW := Lib.hid hg
  clear t1 r2 k2 b1 b2 b3 hbk hB hz0 hg
  go_upto_block 0 with fail
  go_cut [9] (fun s9 wx => ∃ sv lv n st, Both wx B B sv m0 lv ([], 0) n st ∧ st.length ≤ 60 ∧ Below B w0 wx)
  case first =>
    go_wp2_with fail
    go_loopw [9] (fun i wr => ∃ (k : Nat) (sv lv : Value) (n : List UInt8 × Nat) (st : List (List UInt8 × Nat)), k ≤ 60 ∧ k ≤ l.length ∧ i = .int .i64 k ∧ Both wr B B sv m0 lv ([], 0) n st ∧ st.length ≤ k ∧ Below B w0 wr) (fun i _ => 60 - (intOf i).toNat)
    case atStart => exact ⟨0, _, _, _, _, by omega, by omega, rfl, BT.out, by simp, hb2⟩
    case round =>
      obtain ⟨k, sv, lv, n, st, hk, hkl, rfl, hbt, hst, hbel⟩ := hrel
      have hz := hbel.size
      have hzB : B ≤ wr.heap.size := by have := hB0.out; omega
      have HB := Lib.hid hbt
      have hbw : Below w.heap.size w wr := hb0.trans (hbel.mono (by omega))
      by_cases hlt : k < l.length ∧ k < 60
      · obtain ⟨hk1, hk2⟩ := hlt
        have e1 : (k : Int) < (l.length : Int) := by omega
        have e2 : (k : Int) < 60 := by omega
        obtain ⟨o', ho⟩ : ∃ o, l[k]? = some o := ⟨_, List.getElem?_eq_getElem hk1⟩
        have hgo := HG.out o' (List.mem_of_getElem? ho)
        obtain ⟨b, off, rfl, hb, c0, c1, c2, c3⟩ := op_at ((HS.out.below hbw).more hbw.size) ho
        have HSL := Lib.hid (hgo.sl)
        clear ho hgo hbt
        by_cases hbig : 1000 < o'.b.length
        · have e3 : decide ((o'.b.length : Int) ≤ 1000) = false := by simp; omega
          go_wp2_with fail
          go_roundw
          case rel => exact ⟨k + 1, sv, lv, n, st, by omega, by omega, by go_num, HB.out, by omega, hbel⟩
          case measure => simp [intOf]; omega
        · have e3 : decide ((o'.b.length : Int) ≤ 1000) = true := by simp; omega
          have HAct := Lib.hid (both_act o' HB.out hzB (by omega) (by unfold maxLen; omega) ((HSL.out.below hbw).more (by omega)))
          go_wp2_with fail
          with_reducible refine HAct.out.mono ?_
          rintro e w5 ⟨r, rfl, hd, b5⟩
          obtain ⟨sv5, lv5, n5, st5, bo5, hst5⟩ := hd
          have B5 := Lib.hid bo5
          have hb5 := hbel.trans b5
          clear bo5 b5
          go_wp2_with fail
          go_roundw
          case rel => exact ⟨k + 1, sv5, lv5, n5, st5, by omega, by omega, by go_num, B5.out, by omega, hb5⟩
          case measure => simp [intOf]; omega
      · rcases Nat.lt_or_ge k l.length with h1 | h1
        · have e2 : (k : Int) < (l.length : Int) := by omega
          have h60 : ¬ k < 60 := fun h => hlt ⟨h1, h⟩
          have e3 : decide ((k : Int) < 60) = false := by simp; omega
          clear hlt hbt
          go_wp2_with fail
          go_meet
          case rel => exact ⟨sv, lv, n, st, HB.out, by omega, hbel⟩
        · have e2 : decide ((k : Int) < (l.length : Int)) = false := by simp; omega
          clear hbt
          go_wp2_with fail
          go_meet
          case rel => exact ⟨sv, lv, n, st, HB.out, by omega, hbel⟩
  case rest =>
    obtain ⟨sv, lv, n, st, hbt, hst, hbel⟩ := hcut
    have hz := hbel.size
    have hzB : B ≤ wc.heap.size := by have := hB0.out; omega
    have HSy := Lib.hid (sync_any B sv _ n st wc hbt.t (by omega))
    have hkt := Lib.hid hbt.kt
    clear BT hb2 hm0 hlt hBz
    go_wp2_with fail
    with_reducible refine HSy.out.mono ?_
    intro e w4 hd
    obtain ⟨sv4, rfl, t4, k4, b4⟩ := did_kept hkt.out hzB hd
    have hb4 := hbel.trans b4
    have HT4 := Lib.hid t4
    have HRd := Lib.hid (read_any B sv4 _ _ _ w4 t4)
    obtain ⟨N, hN⟩ : ∃ N, st.length + 1 = N := ⟨_, rfl⟩
    have HH := Lib.hid (Held.first n.1 st)
    rw [hN] at HH
    have hN1 : 1 ≤ N := by omega
    have hN2 : N ≤ 61 := by omega
    have hst4 : (st ++ [(n.1, n.1.length)]).length = N := by simp; omega
    have HST := Lib.hid hst4
    obtain ⟨safe, hsafe⟩ : ∃ safe, n.1 = safe := ⟨_, rfl⟩
    rw [hsafe] at HT4 HRd HH HST t4
    obtain ⟨st4, hst4'⟩ : ∃ st4, st ++ [(safe, safe.length)] = st4 := ⟨_, rfl⟩
    rw [hst4'] at HT4 HH HST t4
    clear hd hbt hN hst4 hsafe hst4' hst hbel
    go_wp2_with fail
    with_reducible refine HRd.out.mono ?_
    rintro e w5 ⟨v, rfl, hr, b5⟩
    obtain ⟨AS, cS, rfl, hcs1, hcs2, hsl⟩ := hr.sl
    rw [bts_len] at hcs1 hsl hr
    have t5 := t4.below b5 (Nat.le_refl _)
    have hb5 := hb4.trans (b5.mono (by have := hb4.size; have := hB0.out; omega))
    have HCa := Lib.hid (calls_any B sv4 _ _ st4 w5 t5)
    rw [HST.out] at HCa
    have hi : SafeInv w0 B B N N (.slice AS safe.length cS) safe w5 := ⟨sv4, _, st4, t5, k4, Nat.le_of_eq HST.out, HH.out, hr, hb5⟩
    have HI := Lib.hid hi
    clear hi hr hsl b4 b5 t4 t5 k4 hb4 hkt
    rw [bts_len]
    go_wp2_with fail
    with_reducible refine HCa.out.mono ?_
    rintro e w6 ⟨rfl, b6⟩
    have HI6 := Lib.hid (HI.out.below (Nat.le_refl _) (Nat.le_of_eq hB0.out.symm) b6)
    clear b6 hb5
    go_upto_block 2 with fail
    go_cut [12] (fun s12 wx => SafeInv w0 B B N (N + 60) (.slice AS safe.length cS) safe wx)
    case first =>
      go_wp2_with fail
      go_loopw [12] (fun i wr => ∃ (k : Nat), k ≤ 60 ∧ k ≤ l'.length ∧ i = .int .i64 k ∧ SafeInv w0 B B N (N + k) (.slice AS safe.length cS) safe wr) (fun i _ => 60 - (intOf i).toNat)
      case atStart => exact ⟨0, by omega, by omega, rfl, HI6.out⟩
      case round =>
        obtain ⟨k, hk, hkl, rfl, hinv⟩ := hrel
        have hbel := hinv.stays
        have hz := hbel.size
        have HB := Lib.hid hinv
        have hbw : Below w.heap.size w wr := hb0.trans (hbel.mono (by omega))
        clear hinv
        by_cases hlt : k < l'.length ∧ k < 60
        · obtain ⟨hk1, hk2⟩ := hlt
          have e1 : (k : Int) < (l'.length : Int) := by omega
          have e2 : (k : Int) < 60 := by omega
          obtain ⟨o', ho⟩ : ∃ o, l'[k]? = some o := ⟨_, List.getElem?_eq_getElem hk1⟩
          have hgo := HG'.out o' (List.mem_of_getElem? ho)
          obtain ⟨b, off, rfl, hb, c0, c1, c2, c3⟩ := op_at ((HS'.out.below hbw).more hbw.size) ho
          have HSL := Lib.hid (hgo.sl)
          have HOk := Lib.hid ho
          clear ho hgo
          by_cases k1 : o'.k = 1
          · have e4 : (o'.k == 1) = true := by simp [k1]
            have e5 : (o'.k == 2) = false := by simp [k1]
            clear k1
            by_cases hbig : 1000 < o'.b.length
            · have e3 : decide ((o'.b.length : Int) ≤ 1000) = false := by simp; omega
              go_wp2_with fail
              go_roundw
              case rel => exact ⟨k + 1, by omega, by omega, by go_num, HB.out.more (by omega)⟩
              case measure => simp [intOf]; omega
            · have e3 : decide ((o'.b.length : Int) ≤ 1000) = true := by simp; omega
              have HAct := Lib.hid (inv_append o'.A o'.b o'.b.length o'.c rfl HB.out (Nat.le_of_eq hB0.out.symm) (by omega) ((HSL.out.below hbw).more hbw.size) (by unfold maxLen; omega))
              go_wp2_with fail
              with_reducible refine HAct.out.mono ?_
              rintro e w7 ⟨r, rfl, hd⟩
              have HD := Lib.hid hd
              have hbd : Below w.heap.size w w7 := hb0.trans (hd.stays.mono (by omega))
              obtain ⟨b', off', hA2, hb', d0, d1, d2, d3⟩ := op_at ((HS'.out.below hbd).more hbd.size) HOk.out
              cases hA2
              clear hd hbd
              go_wp2_with fail
              go_roundw
              case rel => exact ⟨k + 1, by omega, by omega, by go_num, HD.out⟩
              case measure => simp [intOf]; omega
          · have e4 : (o'.k == 1) = false := by simp [k1]
            clear k1
            by_cases k2 : o'.k = 2
            · have e5 : (o'.k == 2) = true := by simp [k2]
              clear k2
              have HAct := Lib.hid (inv_sync HB.out (Nat.le_of_eq hB0.out.symm) (by omega))
              go_wp2_with fail
              with_reducible refine HAct.out.mono ?_
              rintro e w7 ⟨r, rfl, hd⟩
              have HD := Lib.hid hd
              clear hd
              go_wp2_with fail
              go_roundw
              case rel => exact ⟨k + 1, by omega, by omega, by go_num, HD.out⟩
              case measure => simp [intOf]; omega
            · have e5 : (o'.k == 2) = false := by simp [k2]
              clear k2
              go_wp2_with fail
              go_roundw
              case rel => exact ⟨k + 1, by omega, by omega, by go_num, HB.out.more (by omega)⟩
              case measure => simp [intOf]; omega
        · rcases Nat.lt_or_ge k l'.length with h1 | h1
          · have e2 : (k : Int) < (l'.length : Int) := by omega
            have h60 : ¬ k < 60 := fun h => hlt ⟨h1, h⟩
            have e3 : decide ((k : Int) < 60) = false := by simp; omega
            clear hlt
            go_wp2_with fail
            go_meet
            case rel => exact HB.out.more (by omega)
          · have e2 : decide ((k : Int) < (l'.length : Int)) = false := by simp; omega
            go_wp2_with fail
            go_meet
            case rel => exact HB.out.more (by omega)
    case rest =>
      clear HI6 HI HCa HRd HH HST HSy HG HG' HS HS' HR HV HN
      obtain ⟨sv7, n7, st7, t7, k7, hl7, hh7, hr7, hb7⟩ := hcut
      have HRd := Lib.hid (read_any B sv7 _ _ _ wc t7)
      have T7 := Lib.hid t7
      have R7 := Lib.hid hr7
      have HH := Lib.hid hh7
      have hlen := hh7.len
      have hN60 : st7.length ≤ 121 := by omega
      have hz := hb7.size
      clear t7 hr7 hh7 k7
      go_wp2_with fail
      with_reducible refine HRd.out.mono ?_
      rintro e w8 ⟨v8, rfl, hr8, b8⟩
      obtain ⟨A8, c8, rfl, hc81, hc82, _⟩ := hr8.sl
      rw [bts_len] at hc81 hr8
      rw [bts_len]
      have T8 := Lib.hid (T7.out.below b8 (Nat.le_refl _))
      have R8 := Lib.hid (R7.out.below b8 (Nat.le_refl _))
      have Q8 := Lib.hid hr8
      have hb8 := hb7.trans (b8.mono (by have := hB0.out; omega))
      have hbk8 := HBK.out.below hb8 hgB
      have HBK8 := Lib.hid hbk8
      have c81' := hbk8.cell 1
      have hwn := bounds_i64 HO.out.n
      have hwm := bounds_i64 HO.out.m
      clear hr8 b8 hbk8 hb7 T7 R7
      have c82' := HBK8.out.cell 2
      by_cases hneg : o.n < 0
      all_goals go_wp2_with fail
      all_goals
        obtain ⟨ai, hai, hai0, hai1⟩ : ∃ ai : Int, (ai = -(o.n + 1) ∧ o.n < 0 ∨ ai = o.n ∧ ¬ o.n < 0) ∧ 0 ≤ ai ∧ ai ≤ 9223372036854775807 := by
          by_cases h : o.n < 0
          · exact ⟨_, .inl ⟨rfl, h⟩, by omega, by omega⟩
          · exact ⟨_, .inr ⟨rfl, h⟩, by omega, by omega⟩
        first
          | (rw [show -(o.n + 1) = ai from by omega]; clear hai)
          | (rw [show o.n = ai from by omega]; clear hai)
        obtain ⟨L7, hL7⟩ : ∃ L7, st7.length = L7 := ⟨_, rfl⟩
        have HL7 := Lib.hid hL7
        rw [hL7] at hlen hN60
        clear hneg hl7
        obtain ⟨D, hD⟩ : ∃ D : Nat, (L7 : Int) - N + 1 = D := ⟨L7 - N + 1, by omega⟩
        have hD1 : 1 ≤ D := by omega
        obtain ⟨r, hr⟩ : ∃ r : Nat, ai % (D : Int) = r := ⟨(ai % (D : Int)).toNat, by have := Int.emod_nonneg ai (b := (D : Int)) (by omega); omega⟩
        have hrD : r < D := by have := Int.emod_lt_of_pos ai (b := (D : Int)) (by omega); omega
        obtain ⟨q, hq⟩ : ∃ q, cutStep ([], 0) st7 ((N + r : Nat) : Int) o.m = q := ⟨_, rfl⟩
        have hcut := HH.out.cut (f := ([], 0)) T8.out.oks hN1 (N + r) (by omega) (by omega) o.m
        rw [hq] at hcut
        have HCa := Lib.hid (fun (W : World) (hb : Below w8.heap.size w8 W) => calls_any B sv7 _ _ st7 W (T8.out.below hb (Nat.le_refl _)))
        rw [hL7] at HCa
        have HX := Lib.hid (fun (W : World) (hb : Below w8.heap.size w8 W) => cut_any B sv7 _ _ st7 ((N + r : Nat) : Int) o.m W (T8.out.below hb (Nat.le_refl _)) (by omega) (by omega) (by omega))
        rw [hq, Int.natCast_add] at HX
        obtain ⟨qb, qn⟩ := q
        obtain ⟨hq1, hq2, hq3⟩ := hcut
        simp only at hq1 hq2 hq3
        subst hq1
        have hqL := hq2.length_le
        have hqU := hq3.length_le
        have HQ2 := Lib.hid hq2
        have HQ3 := Lib.hid hq3
        have s1 : IntKind.i64.wrap ((L7 : Int) - N) = (L7 : Int) - N := IntWalk.i64_in _ (by omega)
        have s2 : IntKind.i64.wrap ((L7 : Int) - N + 1) = (D : Int) := by rw [hD]; exact IntWalk.i64_in _ (by omega)
        have s3 : Int.tmod ai (D : Int) = (r : Int) := by rw [Int.tmod_eq_emod_of_nonneg hai0]; exact hr
        have s4 : IntKind.i64.wrap ((N : Int) + r) = (N : Int) + r := IntWalk.i64_in _ (by omega)
        have s5 : ((D : Int) == 0) = false := by simp; omega
        have s6 : ¬ (D : Int) = 0 := by omega
        have s7 : ¬ D = 0 := by omega
        have s8 : (D == 0) = false := by simp; omega
        clear hq hq2 hq3 hL7 hD hr
        go_upto_region 24 with fail
        go_cut [15] (fun s15 wx => ∃ p', s15 = .pointer (some ⟨p', 0, none⟩) ∧ TapeAt wx p' (.slice none 0 0) (qb, qb.length) (qb, qb.length) [] ∧ Below w8.heap.size w8 wx)
        case first =>
          go_region_law (first
            | (go_simp; go_at_call 18; (with_reducible refine (HCa.out _ (by first | exact Below.refl _ _ | exact (Below.refl _ _).drew)).mono ?_; rintro e wy ⟨rfl, by_⟩; have c83 := (HBK8.out.drew.below by_ HBK8.out.drew.lt).cell 2))
            | (go_simp; go_at_call 10; (with_reducible refine (HX.out _ (drew_b by_)).mono ?_; intro e wz hd; obtain ⟨p', rfl, tz, bz, hpz, hpz2⟩ := CutPost.out hd)))
          all_goals
            go_wp2_with fail
            go_meet
            case rel => exact ⟨p', rfl, tz, step_b (drew_b by_) bz⟩
        case rest =>
          obtain ⟨p', rfl, tx, bx⟩ := hcut
          have HRx := Lib.hid (read_any p' _ _ _ _ wc tx)
          have R9 := Lib.hid (R8.out.below bx (Nat.le_refl _))
          have Q9 := Lib.hid (Q8.out.below bx (Nat.le_refl _))
          have TX := Lib.hid tx
          have hb9 := hb8.trans (bx.mono (by have := hb8.size; have := hB0.out; omega))
          clear tx bx hb8 HCa HX HH T8 R8 Q8 c81' c82' HBK8 HBK s1 s2 s3 s4 s5 s6 s7 s8
          go_wp2_with fail
          with_reducible refine HRx.out.mono ?_
          rintro e w9 ⟨v9, rfl, hr9, b9⟩
          obtain ⟨A9, c9, rfl, hc91, hc92, hs9⟩ := hr9.sl
          simp only [bts_len] at hc91 hr9 hs9
          simp only [bts_len]
          have TX9 := Lib.hid (TX.out.below b9 (Nat.le_refl _))
          have R10 := Lib.hid (R9.out.below b9 (Nat.le_refl _))
          have Q10 := Lib.hid (Q9.out.below b9 (Nat.le_refl _))
          have P10 := Lib.hid hr9
          have hb10 := hb9.trans (b9.mono (by have := hb9.size; have := hB0.out; omega))
          obtain ⟨LB, hLB⟩ : ∃ LB, qb.length = LB := ⟨_, rfl⟩
          obtain ⟨LA, hLA⟩ : ∃ LA, n7.1.length = LA := ⟨_, rfl⟩
          obtain ⟨LS, hLS⟩ : ∃ LS, safe.length = LS := ⟨_, rfl⟩
          have hS1 := rd_take Q10.out hqU
          rw [take_prefix HQ3.out] at hS1
          have hS2 := rd_take P10.out hqL
          rw [take_prefix HQ2.out] at hS2
          have hS3 := rd_take R10.out (Nat.le_refl _)
          rw [List.take_length] at hS3
          rw [hLB] at hc91 hs9 hS1 hqL hqU ⊢
          rw [hLA] at hc81 hqU ⊢
          rw [hLS] at hcs1 hqL hS2 hS3 ⊢
          unfold maxLen at hc82 hc92 hcs2
          have HS1 := Lib.hid (fun W (hb : Below w9.heap.size w9 W) => same02_yes A9 A8 qb LB LB c9 c8 W hLB hLB ((hs9.below hb).more hb.size) ((hS1.below hb).more hb.size))
          have HS2 := Lib.hid (fun W (hb : Below w9.heap.size w9 W) => same02_yes A9 AS safe LS LS c9 cS W hLS hLS ((hS2.below hb).more hb.size) ((hS3.below hb).more hb.size))
          have HSf := Lib.hid (fun W (hb : Below w9.heap.size w9 W) => safe_any p' _ _ _ _ W (TX9.out.below hb (Nat.le_refl _)))
          have HCx := Lib.hid (fun W (hb : Below w9.heap.size w9 W) => calls_any p' _ _ _ _ W (TX9.out.below hb (Nat.le_refl _)))
          simp only [hLB] at HSf
          have k1 : (LS : Int) ≤ (LB : Int) := by omega
          have k2 : (LB : Int) ≤ (LA : Int) := by omega
          have k3 : (LB : Int) ≤ (c8 : Int) := by omega
          have k4 : (LS : Int) ≤ (c9 : Int) := by omega
          have hB9 : B ≤ w9.heap.size := by have := hb10.size; have := hB0.out; omega
          clear hr9 b9 hS1 hS2 hS3 hs9 hLB hLA hLS hb9 R9 Q9 HRx TX
          go_wp2_with fail
          with_reducible refine (HS1.out _ (Below.refl _ _)).mono ?_
          rintro e w10 ⟨rfl, b10⟩
          go_wp2_with fail
          with_reducible refine (HS2.out _ b10).mono ?_
          rintro e w11 ⟨rfl, b11⟩
          have b11' := step_b b10 b11
          go_wp2_with fail
          with_reducible refine (HSf.out _ b11').mono ?_
          rintro e w12 ⟨rfl, b12⟩
          have b12' := step_b b11' b12
          go_wp2_with fail
          with_reducible refine (HCx.out _ b12').mono ?_
          rintro e w13 ⟨rfl, b13⟩
          have b13' := step_b b12' b13
          go_wp2_with fail
          go_ret
          exact ⟨rfl, hb0.trans ((hb10.mono (by omega)).trans (b13'.mono (by omega)))⟩

set_option maxRecDepth 100000 in
theorem lifted (os : Os) (started : os.Started) (H : Type) (enc : TypeId × Value → H) :
    ReturnsInHanded {} Try.checked os 5 .any (Rows.tapeSafeSpec.pre6 enc Try.prog Try.f5 Rows.tapeSafeRow.domain false) (Rows.tapeSafeSpec.post enc Try.prog Try.f5 false true false false) := by
  refine returnsInHanded_of_change (C := Try.checked) own started (by kernel_rfl) Try.func5
    (ChangeSpec.witness6 (enc := enc) (C := Try.checked) false ⟨#[], #[.slice none 0 0, .slice none 0 0, .agg #[.int .i64 0, .int .i64 0, .int .i64 0, .slice none 0 0]], []⟩ 8 (by kernel_rfl) (by kernel_rfl) (by kernel_rfl) (by kernel_rfl)) ?_
  intro W base args ds gs before hval0 hW hcnd _
  have hval : ∀ (j : Nat) t v, Try.f5.params[j]? = some t → args[j]? = some v → Value.okWide Try.prog W .any base t v := hval0
  have hW' := hW
  obtain ⟨p, q, hA0, hV, rfl, hfz, hnd⟩ := hW
  have hA : DataW.TrodAll enc Try.prog W 0 (fun _ => true) true Try.f5.params.toList args.toList ds p := hA0
  rw [Try.params5] at hA hval
  obtain ⟨v0, vs0, d0, ds0, p0, q0, hargs, rfl, rfl, h0, r0⟩ := trodAll_cons hA
  obtain ⟨v1, vs1, d1, ds1, p1, q1, rfl, rfl, rfl, h1, r1⟩ := trodAll_cons r0
  obtain ⟨v2, vs2, d2, ds2, p2, q2, rfl, rfl, rfl, h2, r2⟩ := trodAll_cons r1
  obtain ⟨rfl, rfl, rfl⟩ := trodAll_nil r2
  obtain rfl : args = #[v0, v1, v2] := by cases args; simp_all
  obtain ⟨rfl, rfl⟩ := trodVars_none hV
  have k0 := h0
  have lt0 : ∀ x ∈ p0, x.block < W.heap.size := by obtain ⟨m, hm⟩ := k0; exact DataW.trod_lt m _ _ _ hm
  have k1 := h1
  have lt1 : ∀ x ∈ p1, x.block < W.heap.size := by obtain ⟨m, hm⟩ := k1; exact DataW.trod_lt m _ _ _ hm
  have k2 := h2
  have lt2 : ∀ x ∈ p2, x.block < W.heap.size := by obtain ⟨m, hm⟩ := k2; exact DataW.trod_lt m _ _ _ hm
  obtain ⟨A0, l0, c0, rfl, u0, m0, s0, g0⟩ := open_ops (hval 0 31 v0 rfl rfl) h0
  obtain ⟨A1, l1, c1, rfl, u1, m1, s1, g1⟩ := open_ops (hval 1 31 v1 rfl rfl) h1
  obtain ⟨o2, rfl, g2⟩ := open_op (hval 2 35 v2 rfl rfl) h2
  clear hA0 hval0
  refine (walk A0 l0 c0 u0 m0 s0 g0 A1 l1 c1 u1 m1 s1 g1 o2 g2 W).mono fun e W' ⟨he, bel⟩ => ?_
  subst he
  exact ⟨_, rfl, _, _, _, [], _, [], hW', trodAll_mk1 (shut_bool Try.underlying4 _), (trodAll_cons_mk (Below.trod laidOut (by kernel_rfl) (of_decide_eq_true (by kernel_rfl)) k0 bel lt0) (trodAll_cons_mk (Below.trod laidOut (by kernel_rfl) (of_decide_eq_true (by kernel_rfl)) k1 bel lt1) (trodAll_cons_mk (Below.trod laidOut (by kernel_rfl) (of_decide_eq_true (by kernel_rfl)) k2 bel lt2) trodAll_mk0))), rfl, bel.frame _, fun h => by cases h⟩

theorem over : Rows.tapeSafeRow.holds Try.pinned (OpenSpec.ofChange Rows.tapeSafeSpec) :=
  OpenClaim.holds_of_wide 5 Try.f5 rfl rfl rfl rfl rfl rfl rfl ⟨rfl, rfl, rfl, rfl, rfl⟩ rfl rfl rfl rfl rfl (by kernel_rfl) Try.func5 (by kernel_rfl)
    (of_decide_eq_true (by kernel_rfl)) (by unfold Func.isWrapper; first | (rw [if_pos (by decide +kernel)]; kernel_rfl) | (rw [if_neg (by decide +kernel)]; exact ⟨rfl, rfl⟩))
    (fun os started H enc _ => lifted os started H enc)

/-- The statement. -/
theorem proved : Rows.TapeSafeSaid := over
#print axioms proved
end Go.Proofs.Ytfgjpmbbfilemaa.tapeSafe

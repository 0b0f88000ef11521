/- What this text proves: what the reference writes of a set of validators: the contracts of nuncioref06's number and Set. The condition is how the set lies in memory. -/
import Derived.Test.YthbkcjjpdhdidaaDoorSetEnc
import Derived.Test.YthbkcjjpdhdidaaDoorWireRefS
namespace Go.Proofs.YthbkcjjpdhdidaaDoor
open Go.RowKit Go.Shelf
set_option linter.unusedVariables false
set_option linter.unusedSimpArgs false

theorem rnumber_any (n : Int) (w : World) : Calls Tryd.prog 25 #[.int .i64 n] w fun e w' => ∃ v, e = .returned v ∧ Own8 w' w.heap.size v (beB (n % 18446744073709551616).toNat 8) ∧ Below w.heap.size w w' := by
  have HW := Lib.hid (rword_any (n % 18446744073709551616).toNat (IntKind.u64.wrap n) (by rw [IntKind.wrap_u64]; omega) w (by omega))
  go_enter Tryd.func25, Tryd.ntmps25
  go_wp2_with fail
  with_reducible refine HW.out.mono ?_
  rintro e w1 ⟨v, rfl, ho, hb⟩
  have HO := Lib.hid ho
  have HB := Lib.hid hb
  clear ho hb
  go_wp2_with fail
  go_ret
  exact ⟨v, rfl, HO.out, HB.out⟩

theorem Own8.sl_ {w : World} {B : Nat} {v : Value} {l : List UInt8} (h : Own8 w B v l) : ∃ A c, v = .slice A l.length c ∧ Sl w w.heap.size 1 A l.length (bts l) := by
  obtain ⟨A, c, rfl, _, _, hs⟩ := own_sl h
  exact ⟨A, c, rfl, hs⟩
theorem Own8.below {w w' : World} {B : Nat} {v : Value} {l : List UInt8} (h : Own8 w B v l) (hb : Below w.heap.size w w') : Own8 w' B v l := by
  refine ⟨h.1, ?_⟩
  rcases h.2 with hn | ⟨g, cap, cur, hv, hbg, hg, rest⟩
  · exact .inl hn
  · exact .inr ⟨g, cap, cur, hv, hbg, (hb.block g (Lib.lt_of_heap hg)).trans hg, rest⟩

theorem own8_app {w : World} {B : Nat} {v : Value} {a b : List UInt8} (h : w.ownsRow B 5 1 v (a.length + b.length) (bts a ++ bts b)) : Own8 w B v (a ++ b) := by
  rw [Own8, List.length_append, bts_app]
  exact h

set_option maxRecDepth 100000 in
set_option maxHeartbeats 4000000 in
theorem rset_any (A : Option Addr) (l : List (Int × Int)) (c : Nat) (w : World) (hl : l.length ≤ 64) (hk : keysOk l) (hA : Sl w w.heap.size 2 A l.length (vCells l)) :
    Calls Tryd.prog 19 #[.slice A l.length c] w fun e w' => ∃ v, e = .returned (.tuple #[v, .bool true]) ∧ Own8 w' w.heap.size v (setB l) ∧ Below w.heap.size w w' := by
  obtain ⟨i0, hi, hz0, hz1, hz2⟩ := info_parts wu8_info
  obtain ⟨n, hn⟩ : ∃ n, l.length = n := ⟨_, rfl⟩
  have HS : Hid (setB l = (beB 3 8 ++ beB n 8) ++ valsB l) := Lib.hid (by rw [setB, hn])
  rw [hn] at hl hA ⊢
  have HN := Lib.hid hn
  have HA := Lib.hid hA
  have HK := Lib.hid hk
  obtain ⟨g0, hg0⟩ : ∃ x, w.heap.size = x := ⟨_, rfl⟩
  have HG := Lib.hid hg0
  clear hn hA hk hg0
  go_enter Tryd.func19, Tryd.ntmps19
  go_wp2_with fail
  with_reducible refine (rnumber_any 3 w).mono ?_
  rintro e w1 ⟨v1, rfl, ho1, hb1⟩
  rw [show ((3 : Int) % 18446744073709551616).toNat = 3 from rfl] at ho1
  have O1 := Lib.hid ho1
  have L1 := Lib.hid hb1
  clear ho1 hb1
  go_wp2_with fail
  with_reducible refine (rnumber_any (n : Int) w1).mono ?_
  rintro e w2 ⟨v2, rfl, ho2, hb2⟩
  rw [show ((n : Int) % 18446744073709551616).toNat = n by omega] at ho2
  obtain ⟨A2, c2, rfl, hs2⟩ := ho2.sl_
  have S2 := Lib.hid hs2
  have O2 := Lib.hid (O1.out.below hb2)
  have L2 := Lib.hid (L1.out.trans (hb2.mono L1.out.size))
  have hsz2 := L2.out.size
  clear ho2 hs2 hb2 O1 L1
  go_wp2_with (at_builtin; (refine wpList_append_sl w2 (by rfl) _ _ 42 (by rfl) w.heap.size 5 i0 _ 1 1 Tryd.underlying42 hi hz0 hz1 hz2 rfl (by omega) v1 (beB 3 8).length (bts (beB 3 8)) (by rfl) O2.out A2 (beB n 8).length c2 (bts (beB n 8)) (by rfl) S2.out bts_one (by unfold maxLen; rw [beB_len, beB_len]; omega) (by rw [beB_len, beB_len]; omega) hsz2 ?_; intro v3 w3 ho_ hg_ hv_; have O3 := Lib.hid (own8_app ho_); have L3 : Hid (Below w.heap.size w w3) := Lib.hid (L2.out.grown hg_ hsz2 (fun k hk => (own_cells O2.out hk).1)); clear ho_ hg_ hv_))
  go_loopw [4, 5] (fun v i wr => ∃ (k : Nat), k ≤ n ∧ i = .int .i64 k ∧ Own8 wr w.heap.size v ((beB 3 8 ++ beB n 8) ++ valsB (l.take k)) ∧ Below w.heap.size w wr) (fun _ i _ => n - (intOf i).toNat)
  case atStart => exact ⟨0, Nat.zero_le _, rfl, by rw [List.take_zero, show valsB [] = [] from rfl, List.append_nil]; exact O3.out, L3.out⟩
  case round =>
    obtain ⟨k, hk, rfl, ho, hb⟩ := hrel
    have OR := Lib.hid ho
    have LR := Lib.hid hb
    have hszr := hb.size
    clear ho hb O3 L3 O2 L2 S2
    by_cases hlt : k < n
    · have e1 : decide ((k : Int) < (n : Int)) = true := by simp; omega
      have e2 : (k : Int) < (n : Int) := by omega
      have e3 : decide ((k : Int) ≤ 64) = true := by simp; omega
      obtain ⟨v, hv⟩ : ∃ v, l[k]? = some v := ⟨_, List.getElem?_eq_getElem (by rw [HN.out]; exact hlt)⟩
      obtain ⟨hk0, hk1⟩ := HK.out v (List.mem_of_getElem? hv)
      obtain ⟨ba, off, rfl, hba, hcc⟩ := HA.out.at_ (by omega)
      have hvd : l.getD k (0, 0) = v := by rw [List.getD_eq_getElem?_getD, hv]; rfl
      have g := vCells_get l k (by rw [HN.out]; exact hlt)
      rw [hvd] at g
      have d0 : wr.cell? ⟨ba, off + k * 2, none⟩ = some (.int .u64 v.1) := (LR.out.cell (p := ⟨ba, off + k * 2, none⟩) hba).trans (hcc (k * 2) _ g.1)
      have d1 : w.cell? ⟨ba, off + k * 2 + 1, none⟩ = some (.int .i64 v.2) := by rw [Nat.add_assoc]; exact hcc (k * 2 + 1) _ g.2
      have HSN := Lib.hid (valsB_snoc hv)
      obtain ⟨X, hX⟩ : ∃ X, (beB 3 8 ++ beB n 8) ++ valsB (l.take k) = X := ⟨_, rfl⟩
      have hXl : X.length ≤ 1040 := by rw [← hX, List.length_append, List.length_append, beB_len, beB_len, valsB_len, List.length_take]; omega
      have HX := Lib.hid hX
      rw [hX] at OR
      obtain ⟨v1, v2⟩ := v
      simp only at d0 d1 hk0 hk1
      have HD1 := Lib.hid d1
      have HBA := Lib.hid hba
      clear hcc g hvd hv hX d1 hba
      go_wp2_with fail
      with_reducible refine (rword_any v1.toNat v1 (by omega) wr (by omega)).mono ?_
      rintro e w4 ⟨z4, rfl, ho4, hb4⟩
      obtain ⟨A4, c4, rfl, hs4⟩ := ho4.sl_
      have S4 := Lib.hid hs4
      have O4 := Lib.hid (OR.out.below hb4)
      have L4 := Lib.hid (LR.out.trans (hb4.mono hszr))
      have hsz4 := L4.out.size
      clear ho4 hs4 hb4 OR LR d0
      go_wp2_with (at_builtin; (refine wpList_append_sl w4 (by rfl) _ _ 42 (by rfl) w.heap.size 5 i0 _ 1 1 Tryd.underlying42 hi hz0 hz1 hz2 rfl (by omega) u4 X.length (bts X) (by rfl) O4.out A4 (beB v1.toNat 8).length c4 (bts (beB v1.toNat 8)) (by rfl) S4.out bts_one (by unfold maxLen; rw [beB_len]; omega) (by rw [beB_len]; omega) hsz4 ?_; intro v5 w5 ho_ hg_ hv_; have O5 := Lib.hid (own8_app ho_); have L5 : Hid (Below w.heap.size w w5) := Lib.hid (L4.out.grown hg_ hsz4 (fun k hk => (own_cells O4.out hk).1)); have d1 : w5.cell? ⟨ba, off + k * 2 + 1, none⟩ = some (.int .i64 v2) := (L5.out.cell (p := ⟨ba, off + k * 2 + 1, none⟩) HBA.out).trans HD1.out; clear ho_ hg_ hv_))
      have hsz5 := L5.out.size
      clear O4 L4 S4
      with_reducible refine (rnumber_any v2 w5).mono ?_
      rintro e w6 ⟨z6, rfl, ho6, hb6⟩
      obtain ⟨A6, c6, rfl, hs6⟩ := ho6.sl_
      have S6 := Lib.hid hs6
      have O6 := Lib.hid (O5.out.below hb6)
      have L6 := Lib.hid (L5.out.trans (hb6.mono hsz5))
      have hsz6 := L6.out.size
      clear ho6 hs6 hb6 O5 L5 d1
      go_wp2_with (at_builtin; (refine wpList_append_sl w6 (by rfl) _ _ 42 (by rfl) w.heap.size 5 i0 _ 1 1 Tryd.underlying42 hi hz0 hz1 hz2 rfl (by omega) v5 (X ++ beB v1.toNat 8).length (bts (X ++ beB v1.toNat 8)) (by rfl) O6.out A6 (beB (v2 % 18446744073709551616).toNat 8).length c6 (bts (beB (v2 % 18446744073709551616).toNat 8)) (by rfl) S6.out bts_one (by unfold maxLen; rw [List.length_append, beB_len, beB_len]; omega) (by rw [List.length_append, beB_len, beB_len]; omega) hsz6 ?_; intro v7 w7 ho_ hg_ hv_; have O7 := Lib.hid (own8_app ho_); have L7 : Hid (Below w.heap.size w w7) := Lib.hid (L6.out.grown hg_ hsz6 (fun k hk => (own_cells O6.out hk).1)); clear ho_ hg_ hv_))
      go_roundw
      case rel =>
        refine ⟨k + 1, by omega, by go_num, ?_, L7.out⟩
        rw [HSN.out, ← List.append_assoc, ← List.append_assoc, HX.out]
        exact O7.out
      case measure => simp [intOf]; omega
    · obtain rfl : k = n := by omega
      have e1 : decide ((k : Int) < (k : Int)) = false := by simp
      have e3 : decide ((k : Int) ≤ 64) = true := by simp; omega
      go_wp2_with fail
      go_ret2
      refine ⟨_, rfl, ?_, LR.out⟩
      rw [HS.out]
      have := OR.out
      rwa [List.take_of_length_le (by rw [HN.out]; exact Nat.le_refl _)] at this
end Go.Proofs.YthbkcjjpdhdidaaDoor

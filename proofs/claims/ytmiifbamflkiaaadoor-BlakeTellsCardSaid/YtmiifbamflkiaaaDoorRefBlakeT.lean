/- What this text proves: the contract of the reference's Text. No condition. -/
import Derived.Test.YtmiifbamflkiaaaDoorRefBlakeA
namespace Go.Proofs.YtmiifbamflkiaaaDoor
open Go.RowKit
set_option linter.unusedVariables false
set_option linter.unusedSimpArgs false

theorem hex_ext : ∀ q : Fin 16, hexB.extract q.val (q.val + 1) = strOf [hexC q.val] := by decide +kernel
theorem run_hex_slice {o : Oper} {a : Act} {W : World} (s lo hi : Operand) (ho : o.op = .slice 9 s (some lo) (some hi) none) (q : Nat) (hq : q < 16) (hs : a.eval s = .string hexB) (i j : Int) (hl : a.eval lo = .int .u8 i) (hh : a.eval hi = .int .u8 j) (hi' : i = q) (hj' : j = i + 1) :
    (execOp a.eval o).run Tryd.prog W = .ok (.value (.string (strOf [hexC q]))) W := by
  subst hi'
  subst hj'
  have hsz : hexB.size = 16 := by decide +kernel
  have h := run_slice_string (P := Tryd.prog) (w := W) 9 hexB .u8 .u8 (q : Int) ((q : Int) + 1) Tryd.underlying9 (by omega) (by omega) (by rw [hsz]; omega)
  unfold execOp
  simp only [ho, hs, hl, hh, Option.map_some, Option.map_none]
  rw [Sem.run_bind, run_sliceAt_string (P := Tryd.prog) (w := W) 9 (.string hexB) _ _ _ Tryd.underlying9, h]
  have e := hex_ext ⟨q, hq⟩
  simp only at e
  rw [show ((q : Int) + 1).toNat = q + 1 by omega, Int.toNat_natCast, e]
  rfl
theorem str_app (l m : List UInt8) : strOf l ++ strOf m = strOf (l ++ m) := by
  apply ByteArray.ext
  simp [strOf]
theorem run_str_add {o : Oper} {a : Act} {W : World} (x y : Operand) (ty : TypeId) (ho : o.op = .binOp .add 9 x y ty) (l m : List UInt8) (hx : a.eval x = .string (strOf l)) (hy : a.eval y = .string (strOf m)) (hb : l.length + m.length ≤ 9223372036854775807) :
    (execOp a.eval o).run Tryd.prog W = .ok (.value (.string (strOf (l ++ m)))) W := by
  have h : (binOp .add 9 (.string (strOf l)) (.string (strOf m))).run Tryd.prog W = .ok (.string (strOf (l ++ m))) W := by
    rw [← str_app]
    have hs : (strOf l).size + (strOf m).size ≤ 9223372036854775807 := hb
    simp [go_sem, hs]
  have hg : eqGuard .add 9 x y (.string (strOf l)) (.string (strOf m)) = pure () := rfl
  unfold execOp
  simp only [ho, hx, hy, hg, Sem.run_bind, Sem.run_pure, Result.andThen_ok, h]
set_option maxRecDepth 100000 in
set_option maxHeartbeats 2000000 in
theorem rtext_any (l : List UInt8) (hl : l.length = 32) (w : World) :
    Calls Tryd.prog 18 #[.agg (bts l).toArray] w fun e w' => e = .returned (.string ⟨(textF l).toArray⟩) ∧ Below w.heap.size w w' := by
  have T1 := Bk.new w 25 (bts l).toArray
  have L1 : Below w.heap.size w (w.alloc (.cells (bts l).toArray 25)) := (by (first | assumption | (repeat (first | exact Below.refl _ _ | assumption | apply Below.drew | apply below_drewN | (refine Below.setCell ?_ (by (try simp) <;> omega) _) | (refine Below.alloc ?_ (by (try simp) <;> omega) _)))))
  go_enter Tryd.func18, Tryd.ntmps18
  go_upto_region 1 with fail
  obtain ⟨w1, hw1⟩ : ∃ x, w.alloc (.cells (bts l).toArray 25) = x := ⟨_, rfl⟩
  obtain ⟨gt, hgt⟩ : ∃ x, w.heap.size = x := ⟨_, rfl⟩
  rw [hw1] at T1 L1 ⊢
  rw [hgt] at T1 L1 ⊢
  clear hw1
  have HT := Lib.hid T1
  have HL1 := Lib.hid L1
  clear L1 T1
  go_wp2_with fail
  go_loopw [3, 5] (fun v i wr => ∃ (k : Nat), k ≤ 32 ∧ i = .int .i64 k ∧ v = .string (strOf (textF (l.take k))) ∧ Bk wr gt 25 (bts l).toArray ∧ Below gt w wr) (fun _ i _ => 32 - (intOf i).toNat)
  case atStart => exact ⟨0, by omega, rfl, rfl, HT.out, HL1.out⟩
  case round =>
    obtain ⟨k, hk, rfl, rfl, hb, hbel⟩ := hrel
    have HB := Lib.hid hb
    have HBel := Lib.hid hbel
    clear hb hbel HT HL1
    by_cases hlt : k < 32
    · have hlt' : (k : Int) < 32 := by omega
      obtain ⟨c, hc⟩ : ∃ c, l[k]? = some c := ⟨_, List.getElem?_eq_getElem (by omega)⟩
      have hcell := HB.out.cell k
      rw [List.getElem?_toArray, bts_at hc] at hcell
      have hx := c.toNat_lt
      obtain ⟨x, hxe⟩ : ∃ x, c.toNat = x := ⟨_, rfl⟩
      rw [hxe] at hcell hx
      have h1 : (x : Int).tdiv 16 = ((x / 16 : Nat) : Int) := by rw [Int.tdiv_eq_ediv_of_nonneg (by omega)]; omega
      have h2 : (x : Int).tmod 16 = ((x % 16 : Nat) : Int) := by rw [Int.tmod_eq_emod_of_nonneg (by omega)]; omega
      have h3 : (x : Int) / 16 < 16 := by omega
      have h4 : (x : Int) % 16 < 16 := by omega
      have htl : (textF (l.take k)).length = 2 * k := by rw [textF_len, List.length_take, hl, Nat.min_eq_left hk]
      go_upto_region 6 with fail
      refine wp_region_quiet_lit (by kernel_rfl) (by kernel_rfl) ?_
      repeat (go_big_quiet_step (fail))
      go_big_quiet_want; (with_reducible apply quiet_val)
      case hr => exact fun W hW => run_hex_slice _ _ _ (by rfl) (x / 16) (by omega) (by rfl) _ _ (by rfl) (by rfl) (by omega) rfl
      go_simp
      go_big_quiet_on
      go_big_quiet_want; (with_reducible apply quiet_val)
      case hr => exact fun W hW => run_str_add _ _ _ (by rfl) _ _ (by rfl) (by rfl) (by simp [htl]; try omega)
      go_simp
      go_big_quiet_on
      repeat (go_big_quiet_step (fail))
      go_big_quiet_want; (with_reducible apply quiet_val)
      case hr => exact fun W hW => run_hex_slice _ _ _ (by rfl) (x % 16) (by omega) (by rfl) _ _ (by rfl) (by rfl) (by omega) rfl
      go_simp
      go_big_quiet_on
      go_big_quiet_want; (with_reducible apply quiet_val)
      case hr => exact fun W hW => run_str_add _ _ _ (by rfl) _ _ (by rfl) (by rfl) (by simp [htl]; try omega)
      go_simp
      go_big_quiet_on
      repeat (go_big_quiet_step (fail))
      refine wpQuiet_nil ?_
      rintro _ ⟨nq, rfl⟩
      have hnext : textF (l.take k) ++ [hexC (x / 16)] ++ [hexC (x % 16)] = textF (l.take (k + 1)) := by
        rw [take_at hc, textF, textF, List.flatMap_append, ← hxe]; simp
      have HN := Lib.hid hnext
      clear hnext
      go_wp2_with fail
      go_roundw
      case rel => exact ⟨k + 1, by omega, by go_num, by rw [← HN.out]; simp, HB.out.drewN nq, below_drewN HBel.out nq⟩
      case measure => simp [intOf]; omega
    · obtain rfl : k = 32 := by omega
      have ht : l.take 32 = l := List.take_of_length_le (by omega)
      rw [ht]
      go_wp2_with fail
      go_ret
      exact ⟨rfl, by rw [hgt]; exact HBel.out⟩
end Go.Proofs.YtmiifbamflkiaaaDoor

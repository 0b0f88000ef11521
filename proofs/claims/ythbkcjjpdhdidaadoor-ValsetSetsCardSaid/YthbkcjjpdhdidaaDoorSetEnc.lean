/- What this text proves: what the package forms writes of a right set of validators: the contracts of must, many, putSet. The conditions are how the set and the writer lie in memory. -/
import Derived.Test.YthbkcjjpdhdidaaDoorWireS
import Derived.Test.YthbkcjjpdhdidaaDoorRef07
import Derived.Recover
import Derived.Defers
import Derived.WalkSmall
namespace Go.Proofs.YthbkcjjpdhdidaaDoor
open Go.RowKit Go.Shelf
set_option linter.unusedVariables false
set_option linter.unusedSimpArgs false

/-- The bytes of a validator, of validators, of a set. -/
def valB (v : Int × Int) : List UInt8 := beB v.1.toNat 8 ++ beB (v.2 % 18446744073709551616).toNat 8
def valsB (l : List (Int × Int)) : List UInt8 := l.flatMap valB
def setB (l : List (Int × Int)) : List UInt8 := (beB 3 8 ++ beB l.length 8) ++ valsB l
/-- Keys are words. -/
def keysOk (l : List (Int × Int)) : Prop := ∀ v ∈ l, 0 ≤ v.1 ∧ v.1 < 18446744073709551616
theorem valB_len (v : Int × Int) : (valB v).length = 16 := by simp [valB, beB_len]
theorem valsB_len (l : List (Int × Int)) : (valsB l).length = 16 * l.length := by
  induction l with
  | nil => rfl
  | cons v l ih =>
    rw [valsB, List.flatMap_cons, List.length_append, valB_len, List.length_cons]
    rw [valsB] at ih
    omega
theorem setB_len (l : List (Int × Int)) : (setB l).length = 16 + 16 * l.length := by
  rw [setB, List.length_append, List.length_append, beB_len, beB_len, valsB_len]
theorem valsB_snoc {l : List (Int × Int)} {k : Nat} {v : Int × Int} (h : l[k]? = some v) : valsB (l.take (k + 1)) = valsB (l.take k) ++ beB v.1.toNat 8 ++ beB (v.2 % 18446744073709551616).toNat 8 := by
  rw [take_at h, valsB, valsB, List.flatMap_append, List.flatMap_cons, List.flatMap_nil, List.append_nil, valB, List.append_assoc]

theorem fmust_ok (w : World) : Calls Tryd.prog 32 #[.bool true] w fun e w' => e = .returned (.tuple #[]) ∧ w' = w := by
  go_enter Tryd.func32, Tryd.ntmps32
  go_wp2_with fail
  first | go_end0 | go_ret
  exact ⟨rfl, rfl⟩
theorem fmany_ok (n : Nat) (w : World) (hn : n ≤ 64) : Calls Tryd.prog 34 #[.int .i64 n, .int .i64 64] w fun e w' => e = .returned (.int .i64 n) ∧ w' = w := by
  have e1 : decide ((n : Int) ≤ 64) = true := by simp; omega
  go_enter Tryd.func34, Tryd.ntmps34
  go_wp2_with fail
  with_reducible refine (fmust_ok w).mono ?_
  rintro e w1 ⟨rfl, rfl⟩
  go_wp2_with fail
  go_ret
  exact ⟨rfl, rfl⟩

/-- A block that is no writer's stays. -/
theorem Wr.kept {w w' : World} {B b k : Nat} {bad : Bool} {l : List UInt8} {t : TypeId} {cs : Array Value} (h : Wr w B b bad l) (hk : KB b w w') (hb : Bk w k t cs) (hno : ∀ cur, w.heap[k]? ≠ some (.cells cur 5 (0, 0))) (hne : k ≠ b) : Bk w' k t cs := by
  obtain ⟨v, hbf⟩ := h
  have c0 := hbf.cell0
  obtain ⟨hB, lr, h3, ho, hn, _⟩ := hbf
  refine (hk k _ v hb hne c0 (fun e => ?_)).1
  obtain ⟨_, _, cur, hcur⟩ := own_cells ho e
  exact hno cur hcur

set_option maxRecDepth 100000 in
set_option maxHeartbeats 4000000 in
theorem putset_any (B b : Nat) (A : Option Addr) (l : List (Int × Int)) (c : Nat) (w : World) (h : Wr w B b false []) (hB : B ≤ w.heap.size) (hl : l.length ≤ 64) (hk : keysOk l) (hA : Sl w B 2 A l.length (vCells l)) :
    Calls Tryd.prog 23 #[.pointer (some ⟨b, 0, none⟩), .slice A l.length c] w fun e w' => e = .returned (.tuple #[]) ∧ Wr w' B b false (setB l) ∧ Below B w w' := by
  obtain ⟨n, hn⟩ : ∃ n, l.length = n := ⟨_, rfl⟩
  have HS : Hid (setB l = (beB 3 8 ++ beB n 8) ++ valsB l) := Lib.hid (by rw [setB, hn])
  rw [hn] at hl hA ⊢
  have HN := Lib.hid hn
  have HA := Lib.hid hA
  have HK := Lib.hid hk
  have H0 := Lib.hid h
  clear hn hA hk h
  go_enter Tryd.func23, Tryd.ntmps23
  go_wp2_with fail
  with_reducible refine (wnumber_any B b false [] 3 w H0.out hB (by simp)).mono ?_
  rintro e w1 ⟨rfl, hw1, hb1, _⟩
  rw [List.nil_append, show ((3 : Int) % 18446744073709551616).toNat = 3 from rfl] at hw1
  have H1 := Lib.hid hw1
  have L1 := Lib.hid hb1
  have hz1 : B ≤ w1.heap.size := Nat.le_trans hB hb1.size
  clear hw1 hb1 H0
  go_wp2_with fail
  with_reducible refine (fmany_ok n w1 hl).mono ?_
  rintro e w2 ⟨rfl, rfl⟩
  go_wp2_with fail
  with_reducible refine (wnumber_any B b false (beB 3 8) (n : Int) _ H1.out hz1 (by rw [beB_len]; omega)).mono ?_
  rintro e w2 ⟨rfl, hw2, hb2, _⟩
  rw [show ((n : Int) % 18446744073709551616).toNat = n by omega] at hw2
  have H2 := Lib.hid hw2
  have L2 := Lib.hid (L1.out.trans hb2)
  have hz2 : B ≤ w2.heap.size := Nat.le_trans hz1 hb2.size
  clear hw2 hb2 H1 L1
  go_wp2_with fail
  go_loopw [15] (fun i wr => ∃ (k : Nat), k ≤ n ∧ i = .int .i64 k ∧ Wr wr B b false ((beB 3 8 ++ beB n 8) ++ valsB (l.take k)) ∧ Below B w wr) (fun i _ => n - (intOf i).toNat)
  case atStart => exact ⟨0, Nat.zero_le _, rfl, by rw [List.take_zero, show valsB [] = [] from rfl, List.append_nil]; exact H2.out, L2.out⟩
  case round =>
    obtain ⟨k, hk, rfl, hw, hb⟩ := hrel
    have H3 := Lib.hid hw
    have L3 := Lib.hid hb
    have hz3 : B ≤ wr.heap.size := Nat.le_trans hB hb.size
    clear hw hb H2 L2
    by_cases hlt : k < n
    · have e1 : decide ((k : Int) < (n : Int)) = true := by simp; omega
      have e2 : (k : Int) < (n : Int) := by omega
      obtain ⟨v, hv⟩ : ∃ v, l[k]? = some v := ⟨_, List.getElem?_eq_getElem (by rw [HN.out]; exact hlt)⟩
      obtain ⟨hk0, hk1⟩ := HK.out v (List.mem_of_getElem? hv)
      obtain ⟨ba, off, rfl, hba, hcc⟩ := HA.out.at_ (by omega)
      have hvd : l.getD k (0, 0) = v := by rw [List.getD_eq_getElem?_getD, hv]; rfl
      have g := vCells_get l k (by rw [HN.out]; exact hlt)
      rw [hvd] at g
      have d0 : wr.cell? ⟨ba, off + k * 2, none⟩ = some (.int .u64 v.1) := (L3.out.cell (p := ⟨ba, off + k * 2, none⟩) hba).trans (hcc (k * 2) _ g.1)
      have d1 : wr.cell? ⟨ba, off + k * 2 + 1, none⟩ = some (.int .i64 v.2) := (L3.out.cell (p := ⟨ba, off + k * 2 + 1, none⟩) hba).trans (by rw [Nat.add_assoc]; exact hcc (k * 2 + 1) _ g.2)
      have HSN := Lib.hid (valsB_snoc hv)
      have HLN : Hid ((valsB (l.take k)).length ≤ 1024) := Lib.hid (by rw [valsB_len, List.length_take]; omega)
      obtain ⟨v1, v2⟩ := v
      simp only at d0 d1 hk0 hk1
      clear hcc g hvd hv
      go_upto_region 5 with fail
      have B4 := Bk.new wr 36 #[.int .u64 v1, .int .i64 v2]
      have L4 : Below wr.heap.size wr (wr.alloc (.cells #[.int .u64 v1, .int .i64 v2] 36)) := (by (first | assumption | (repeat (first | exact Below.refl _ _ | assumption | apply Below.drew | apply below_drewN | (refine Below.setCell ?_ (by (try simp) <;> omega) _) | (refine Below.alloc ?_ (by (try simp) <;> omega) _)))))
      obtain ⟨gv, hgv⟩ : ∃ x, wr.heap.size = x := ⟨_, rfl⟩
      have hz3' : B ≤ gv := by omega
      obtain ⟨w4, hw4⟩ : ∃ x, wr.alloc (.cells #[.int .u64 v1, .int .i64 v2] 36) = x := ⟨_, rfl⟩
      rw [hw4] at B4 L4 ⊢
      have H4 := Lib.hid (H3.out.old L4)
      have L4' := Lib.hid (L3.out.trans (L4.mono hz3))
      have hz4 : B ≤ w4.heap.size := Nat.le_trans hz3 L4.size
      rw [hgv] at B4 ⊢
      have hne : gv ≠ b := by have := H3.out.ge; omega
      have no4 : ∀ cur, w4.heap[gv]? ≠ some (.cells cur 5 (0, 0)) := fun cur hcur => by
        unfold Bk at B4
        rw [B4] at hcur
        simp at hcur
      have BK4 := Lib.hid B4
      have NO4 := Lib.hid no4
      clear hw4 L4 d0 d1 hgv B4 no4 H3 L3
      have d4 : w4.cell? ⟨gv, 0, none⟩ = some (.int .u64 v1) := BK4.out.cell 0
      go_wp2_with fail
      have hww := wword_any B b false _ v1.toNat v1 (by omega) w4 H4.out hz4 (by omega) (by rw [List.length_append, List.length_append, beB_len, beB_len]; have := HLN.out; omega)
      with_reducible refine hww.mono ?_
      rintro e w5 ⟨rfl, hw5, hb5, hk5⟩
      have BK5 := Lib.hid (Wr.kept H4.out hk5 BK4.out NO4.out hne)
      have H5 := Lib.hid hw5
      have L5 := Lib.hid (L4'.out.trans hb5)
      have hz5 : B ≤ w5.heap.size := Nat.le_trans hz4 hb5.size
      have d5 : w5.cell? ⟨gv, 1, none⟩ = some (.int .i64 v2) := BK5.out.cell 1
      have hnn := wnumber_any B b false _ v2 w5 H5.out hz5 (by rw [List.length_append, List.length_append, List.length_append, beB_len, beB_len, beB_len]; have := HLN.out; omega)
      have HNN := Lib.hid hnn
      clear hww hnn hw5 hb5 hk5 d4 H4 L4' BK4 NO4
      go_wp2_with fail
      with_reducible refine HNN.out.mono ?_
      rintro e w6 ⟨rfl, hw6, hb6, _⟩
      have H6 := Lib.hid hw6
      have L6 := Lib.hid (L5.out.trans hb6)
      clear hw6 hb6 HNN H5 L5 BK5 d5
      go_wp2_with fail
      go_roundw
      case rel =>
        refine ⟨k + 1, by omega, by go_num, ?_, L6.out⟩
        have e := HSN.out
        rw [e, ← List.append_assoc, ← List.append_assoc]
        exact H6.out
      case measure => simp [intOf]; omega
    · obtain rfl : k = n := by omega
      have e1 : decide ((k : Int) < (k : Int)) = false := by simp
      go_wp2_with fail
      first | go_end0 | go_ret
      refine ⟨rfl, ?_, L3.out⟩
      rw [HS.out]
      have := H3.out
      rwa [List.take_of_length_le (by rw [HN.out]; exact Nat.le_refl _)] at this
end Go.Proofs.YthbkcjjpdhdidaaDoor

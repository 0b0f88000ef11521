/- What this text proves: the contract of the law ValsetSets. The conditions are how the list lies in memory, and that the package's table is as its text lays it. -/
import Derived.Test.YthbkcjjpdhdidaaDoorSetHash
import Derived.Test.YthbkcjjpdhdidaaDoorVsAliveS
import Derived.Test.YthbkcjjpdhdidaaDoorRefTotal07
import Derived.Test.YthbkcjjpdhdidaaDoorRefPow07
import Derived.Deep.RegionLaw
import Derived.OpenShut
import Derived.Deep.CutBlock
import Derived.Deep.DeepCutAuto
namespace Go.Proofs.YthbkcjjpdhdidaaDoor
open Go.RowKit
set_option linter.unusedVariables false
set_option linter.unusedSimpArgs false

theorem bool_val' {P : Program} {o : Oper} {a : Act} {w w' : World} {b c : Bool} (h : (execOp a.eval o).run P w = .ok (.value (.bool b)) w') (e : b = c) : (execOp a.eval o).run P w = .ok (.value (.bool c)) w' := e ▸ h
theorem step_bel {w w1 w2 : World} (h : Below w.heap.size w w1) (h2 : Below w1.heap.size w1 w2) : Below w.heap.size w w2 := h.trans (h2.mono h.size)
theorem bk_range {w : World} {g : Nat} {t : TypeId} {vs : List Value} (h : Bk w g t vs.toArray) : w.rangeAt g 0 vs := fun j v hj => by rw [h.cell, Nat.zero_add, List.getElem?_toArray]; exact hj
attribute [local irreducible] setH digF
set_option maxRecDepth 100000 in
set_option maxHeartbeats 8000000 in
theorem sets_walk (A : Option Addr) (l : List (Int × Int)) (c : Nat) (hlc : l.length ≤ c) (hcm : c ≤ maxLen) {w : World} (hA : Sl w w.heap.size 2 A l.length (vCells l)) (hk : keysOk l) (key : Int) (_ : World) (hr : Roots w ∧ 0 < w.heap.size) :
    Calls Tryd.prog 3 #[.slice A l.length c, .int .u64 key] w fun e w' => e = .returned (.bool true) ∧ Below w.heap.size w w' := by
  have hzh := zero_hash
  have h0l : (bts hash0).length = 32 := by rw [bts_len, hash0_len]
  have h0 := hr.2
  have hlm : l.length ≤ maxLen := by omega
  have HR := Lib.hid hr.1
  have HT := Lib.hid (fun (W : World) (hb : Below w.heap.size w W) => total_any A l c W hlm ((hA.below hb).more hb.size))
  have HT' := Lib.hid (fun (W : World) (hb : Below w.heap.size w W) => refTotal_any A l c W hlm ((hA.below hb).more hb.size))
  have HH := Lib.hid (fun (W : World) (hb : Below w.heap.size w W) => vhash_any A l c W (hr.1.below hb h0) (Nat.lt_of_lt_of_le h0 hb.size) hlm hk ((hA.below hb).more hb.size))
  have HH' := Lib.hid (fun (W : World) (hb : Below w.heap.size w W) => rvhash_any A l c W hlm hk ((hA.below hb).more hb.size))
  have HG := Lib.hid (fun (W : World) (hb : Below w.heap.size w W) => right_any A l c W hlm ((hA.below hb).more hb.size))
  have HG' := Lib.hid (fun (W : World) (hb : Below w.heap.size w W) => refRight_any A l c W hlm ((hA.below hb).more hb.size))
  have HP := Lib.hid (fun (W : World) (hb : Below w.heap.size w W) => power_any A l c key W hlm ((hA.below hb).more hb.size))
  have HP' := Lib.hid (fun (W : World) (hb : Below w.heap.size w W) => refPower_any A l c key W hlm ((hA.below hb).more hb.size))
  obtain ⟨n, hn⟩ : ∃ n, l.length = n := ⟨_, rfl⟩
  rw [hn] at HT HT' HH HH' HG HG' HP HP' ⊢
  clear hlm hA hk hr hlc hcm hn
  by_cases hbig : 80 < n
  · have e0 : decide (80 < (n : Int)) = true := by simp; omega
    go_enter Tryd.func3, Tryd.ntmps3
    go_wp2_with fail
    with_reducible refine (alive_any w).mono ?_
    rintro e w1 ⟨rfl, hb⟩
    have HB := Lib.hid hb
    clear hb
    go_wp2_with fail
    go_ret
    exact ⟨rfl, HB.out⟩
  have e0 : decide (80 < (n : Int)) = false := by simp; omega
  obtain ⟨T1, T2, hT⟩ : ∃ a b, totalV l = (a, b) := ⟨_, _, rfl⟩
  obtain ⟨J, G, hJ⟩ : ∃ a b, hashV l = (a, b) := ⟨_, _, rfl⟩
  have hJl : J.length = 32 := by
    have h : (hashV l).1.length = 32 := by
      unfold hashV
      split
      · exact setH_len l
      · exact hash0_len
    rw [hJ] at h
    exact h
  have hbl : (bts J).length = 32 := by rw [bts_len, hJl]
  obtain ⟨R, hRt⟩ : ∃ a, rightV l = a := ⟨_, rfl⟩
  obtain ⟨P, hPw⟩ : ∃ a, powerV l key = a := ⟨_, rfl⟩
  rw [hT] at HT HT'
  rw [hJ] at HH HH'
  rw [hRt] at HG HG'
  rw [hPw] at HP HP'
  clear hT hJ hRt hPw
  go_enter Tryd.func3, Tryd.ntmps3
  go_wp2_with fail
  with_reducible refine (HT.out w (Below.refl _ _)).mono ?_
  rintro e w1 ⟨rfl, hb⟩
  have L1 := Lib.hid hb
  clear hb HT
  go_wp2_with fail
  with_reducible refine (HT'.out w1 L1.out).mono ?_
  rintro e w2 ⟨rfl, hb⟩
  have L2 := Lib.hid (L1.out.trans (hb.mono L1.out.size))
  clear hb HT' L1
  go_wp2_with fail
  with_reducible refine (HH.out w2 L2.out).mono ?_
  rintro e w3 ⟨rfl, hb⟩
  have L3 := Lib.hid (L2.out.trans (hb.mono L2.out.size))
  have N3 : Below w3.heap.size w3 (w3.alloc (.cells (bts hash0).toArray 29)) := (by (first | assumption | (repeat (first | exact Below.refl _ _ | assumption | apply Below.drew | apply below_drewN | (refine Below.setCell ?_ (by (try simp) <;> omega) _) | (refine Below.alloc ?_ (by (try simp) <;> omega) _)))))
  have L3' := Lib.hid (L3.out.trans (N3.mono L3.out.size))
  have hs3 := L3.out.size
  clear hb HH L2 N3
  go_wp2_with (refine wpList_puts (by rfl) 29 _ _ (by with_reducible rfl) w3.heap.size 0 (by rfl) (bts J) (by rfl) 29 (bts hash0) (by exact Bk.new w3 29 (bts hash0).toArray) 32 hbl (by rw [h0l]; omega) hi_hash bts_all ?_; intro w4 hb_ hm_ hz_; rw [put_hash0 _ hJl] at hb_; have K4 := Lib.hid hb_; have L4 : Hid (Below w.heap.size w w4) := Lib.hid (L3'.out.trans (hm_.to_below L3'.out.size (fun k o e => by rw [e]; exact hs3))); clear hb_ hm_ hz_)
  obtain ⟨ga, hga⟩ : ∃ x, w3.heap.size = x := ⟨_, rfl⟩
  rw [hga] at K4 ⊢
  have hs3' : w.heap.size ≤ ga := by omega
  clear L3 L3' hga hs3
  with_reducible refine (HH'.out w4 L4.out).mono ?_
  rintro e w5 ⟨rfl, hb⟩
  have L5 := Lib.hid (L4.out.trans (hb.mono L4.out.size))
  have K5 := Lib.hid (K4.out.below hb K4.out.lt)
  have N5 : Below w5.heap.size w5 (w5.alloc (.cells (bts hash0).toArray 29)) := (by (first | assumption | (repeat (first | exact Below.refl _ _ | assumption | apply Below.drew | apply below_drewN | (refine Below.setCell ?_ (by (try simp) <;> omega) _) | (refine Below.alloc ?_ (by (try simp) <;> omega) _)))))
  have L5' := Lib.hid (L5.out.trans (N5.mono L5.out.size))
  have hs5 := L5.out.size
  have hg5 := K5.out.lt
  clear hb HH' L4 K4 N5
  go_upto_region 7 with (refine wpList_puts (by rfl) 29 _ _ (by with_reducible rfl) w5.heap.size 0 (by rfl) (bts J) (by rfl) 29 (bts hash0) (by exact Bk.new w5 29 (bts hash0).toArray) 32 hbl (by rw [h0l]; omega) hi_hash bts_all ?_; intro w6 hb_ hm_ hz_; rw [put_hash0 _ hJl] at hb_; have K6 := Lib.hid hb_; have M6 := Lib.hid (hm_.bk (K5.out.alloc (.cells (bts hash0).toArray 29)) (by show ¬ ga = w5.heap.size; omega)); have L6 : Hid (Below w.heap.size w w6) := Lib.hid (L5'.out.trans (hm_.to_below L5'.out.size (fun k o e => by rw [e]; exact hs5))); clear hb_ hm_ hz_)
  obtain ⟨gb, hgb⟩ : ∃ x, w5.heap.size = x := ⟨_, rfl⟩
  rw [hgb] at K6 ⊢
  have z6 := L6.out.size
  clear hgb L5 L5' K5 hs5 hg5 h0
  go_wp2_with fail
  with_reducible refine (alive_any w6).mono ?_
  rintro e w7 ⟨rfl, hb⟩
  have B7 := Lib.hid hb
  have L7 := Lib.hid (L6.out.trans (hb.mono z6))
  clear hb
  go_wp2_with fail
  with_reducible refine (HG.out w7 L7.out).mono ?_
  rintro e w8 ⟨rfl, hb⟩
  have L8 := Lib.hid (L7.out.trans (hb.mono L7.out.size))
  have B8 := Lib.hid (step_bel B7.out hb)
  clear hb L7 B7
  go_wp2_with fail
  with_reducible refine (HG'.out w8 L8.out).mono ?_
  rintro e w9 ⟨rfl, hb⟩
  have L9 := Lib.hid (L8.out.trans (hb.mono L8.out.size))
  have B9 := Lib.hid (step_bel B8.out hb)
  clear hb L8 B8
  have ra := bk_range (M6.out.below B9.out M6.out.lt)
  have rb := bk_range (K6.out.below B9.out K6.out.lt)
  go_wp2_with (first
    | (refine wpList_val (by rfl) (run_load_seg 29 _ (by with_reducible rfl) ga 0 (by rfl) (bts J) ra 32 hbl _ Tryd.underlying29 (by rfl) hi_hash) ?_)
    | (refine wpList_val (by rfl) (run_load_seg 29 _ (by with_reducible rfl) gb 0 (by rfl) (bts J) rb 32 hbl _ Tryd.underlying29 (by rfl) hi_hash) ?_)
    | (refine wpList_val (by rfl) (bool_val' (run_bytes_eql 29 5 _ _ _ (by with_reducible rfl) 32 Tryd.underlying29 Tryd.underlying5 hs_u8' hm_hash J J (by rfl) (by rfl) hJl hJl) (beq_self_eq_true J)) ?_))
  with_reducible refine (HP.out w9 L9.out).mono ?_
  rintro e w10 ⟨rfl, hb⟩
  have L10 := Lib.hid (L9.out.trans (hb.mono L9.out.size))
  clear hb L9 B9 ra rb
  go_wp2_with fail
  with_reducible refine (HP'.out w10 L10.out).mono ?_
  rintro e w11 ⟨rfl, hb⟩
  have L11 := Lib.hid (L10.out.trans (hb.mono L10.out.size))
  clear hb L10
  go_wp2_with fail
  go_ret
  exact ⟨rfl, L11.out⟩

theorem sets_row (A : Option Addr) (l : List (Int × Int)) (c : Nat) (hlc : l.length ≤ c) (hcm : c ≤ maxLen) {w : World} (hA : Sl w w.heap.size 2 A l.length (vCells l)) (hw : ∀ x ∈ l, (Lit.int .u64 x.1).wf = true ∧ (Lit.int .i64 x.2).wf = true) (key : Int) (_ : (Lit.int .u64 key).wf = true) (W : World) (hr : Roots w ∧ 0 < w.heap.size) :
    Calls Tryd.prog 3 #[.slice A l.length c, .int .u64 key] w fun e w' => e = .returned (.bool true) ∧ Below w.heap.size w w' :=
  sets_walk A l c hlc hcm hA (fun v hv => by have := bounds_u64 (hw v hv).1; omega) key W hr
end Go.Proofs.YthbkcjjpdhdidaaDoor

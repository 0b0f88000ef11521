/- What this text proves: what forms.encode makes of the writing of a right set (its contract, EncodeSet's). The conditions are how the set lies in memory. -/
import Derived.Test.YthbkcjjpdhdidaaDoorSetEnc
import Derived.Test.YthbkcjjpdhdidaaDoorWireRefS
namespace Go.Proofs.YthbkcjjpdhdidaaDoor
open Go.RowKit Go.Shelf
set_option linter.unusedVariables false
set_option linter.unusedSimpArgs false

theorem tmps8 (a b x : Value) : #[a, b] ++ ((Array.replicate 6 undef).setIfInBounds 1 x).setIfInBounds 0 x = #[a, b, x, x, undef, undef, undef, undef] := by simp
theorem wpS_later {P : Program} {Q : Exit → Act → List Frame → World → Prop} {a : Act} {cs : List Frame} {w : World} {c : Code} (h : ∀ Q' : Exit → Act → World → Prop, (∀ e a' w', Q e a' cs w' → Q' e a' w') → c.wp P Q' a w) : c.wpS P Q a cs w := wpS_of_wp (h _ fun _ _ _ x => x)
set_option maxHeartbeats 400000 in
theorem idle_enc (p q : Addr) (w : World) :
    CallsD Tryd.prog 28 #[.pointer (some p), .pointer (some q)] .returning w fun e u' w' => e = .returned (.tuple #[]) ∧ u' = .returning ∧ w' = w := by
  refine callsD_of_wpS Tryd.func28 rfl fun c₀ cs hu => ?_
  apply wpS_seq
  apply wpS_region
  simp [wpOpsS, go_sem, recoverD, hu, Tryd.ntmps28, Exit.thenS]
  rw [tmps8]
  with_reducible apply wpS_later
  intro Q' hQ
  have HQ := Lib.hid hQ
  clear hQ
  go_wp2_with fail
  refine HQ.out _ _ _ ?_
  cases c₀
  simp_all [bodyPostS, results, Tryd.results28]

theorem setdo_any (B b g : Nat) (A : Option Addr) (l : List (Int × Int)) (c : Nat) (w : World) (hc : w.cell? ⟨g, 0, none⟩ = some (.slice A l.length c)) (h : Wr w B b false []) (hB : B ≤ w.heap.size) (hl : l.length ≤ 64) (hk : keysOk l) (hA : Sl w B 2 A l.length (vCells l)) :
    Calls Tryd.prog 22 #[.pointer (some ⟨b, 0, none⟩), .pointer (some ⟨g, 0, none⟩)] w fun e w' => e = .returned (.tuple #[]) ∧ Wr w' B b false (setB l) ∧ Below B w w' := by
  have HP := Lib.hid (putset_any B b A l c w h hB hl hk hA)
  clear h hA hk
  go_enter Tryd.func22, Tryd.ntmps22
  go_wp2_with fail
  with_reducible refine HP.out.mono ?_
  rintro e w1 ⟨rfl, h1, h2⟩
  have H1 := Lib.hid h1
  have H2 := Lib.hid h2
  clear h1 h2
  go_wp2_with fail
  first | go_end0 | go_ret
  exact ⟨rfl, H1.out, H2.out⟩

set_option maxRecDepth 100000 in
set_option maxHeartbeats 2000000 in
theorem encode_any (g : Nat) (A : Option Addr) (l : List (Int × Int)) (c : Nat) (w : World) (hc : w.cell? ⟨g, 0, none⟩ = some (.slice A l.length c)) (hl : l.length ≤ 64) (hk : keysOk l) (hA : Sl w w.heap.size 2 A l.length (vCells l)) :
    Calls Tryd.prog 21 #[.func (.func 22) #[] #[.pointer (some ⟨g, 0, none⟩)]] w fun e w' => ∃ v, e = .returned (.tuple #[v, .int .i64 0]) ∧ Own8 w' w.heap.size v (setB l) ∧ Below w.heap.size w w' := by
  have hmf : ∀ (fn : Fn) (first cap : Array Value) (w : World), (Instr.makeFunc fn first cap).run Tryd.prog w = .ok (.func fn first cap) w := fun _ _ _ _ => rfl
  obtain ⟨n0, hn0⟩ : ∃ n0, w.heap.size = n0 := ⟨_, rfl⟩
  obtain ⟨W, hW⟩ : ∃ W, (w.alloc (.cells #[.slice none 0 0] 42)).alloc (.cells #[.int .i64 0] 25) = W := ⟨_, rfl⟩
  have hbel : Below w.heap.size w W := by rw [← hW]; exact (by (first | assumption | (repeat (first | exact Below.refl _ _ | assumption | apply Below.drew | apply below_drewN | (refine Below.setCell ?_ (by (try simp) <;> omega) _) | (refine Below.alloc ?_ (by (try simp) <;> omega) _)))))
  have hWs : W.heap.size = n0 + 2 := by rw [← hW, ← hn0]; simp
  have hgl : g < w.heap.size := World.block_lt_of_cell? w _ hc
  have hcW : W.cell? ⟨g, 0, none⟩ = some (.slice A l.length c) := (hbel.cell (p := ⟨g, 0, none⟩) hgl).trans hc
  have k0 : Bk W n0 42 #[.slice none 0 0] := by rw [← hW, ← hn0]; exact (Bk.new w _ _).alloc _
  have k1 : Bk W (n0 + 1) 25 #[.int .i64 0] := by rw [← hW, ← hn0]; have := Bk.new (w.alloc (.cells #[.slice none 0 0] 42)) 25 #[.int .i64 0]; simpa using this
  have hAW : Sl W (n0 + 2) 2 A l.length (vCells l) := ((hA.below hbel).more (by omega))
  have HB := Lib.hid hbel
  have HK0 := Lib.hid k0
  have HK1 := Lib.hid k1
  have HA := Lib.hid hAW
  have HKE := Lib.hid hk
  have HN0 := Lib.hid hn0
  have HLL := Lib.hid (setB_len l)
  rw [hn0] at hgl
  clear hbel k0 k1 hAW hk hA hc
  go_enter_defers Tryd.func21, Tryd.ntmps21
  go_wp2_with fail
  with_reducible refine (newWriter_any W.heap.size W (Nat.le_refl _)).mono ?_
  rintro e w2 ⟨rfl, hw2, hb2⟩
  rw [hWs] at hw2 hb2 ⊢
  have H2 := Lib.hid hw2
  have L2 := Lib.hid hb2
  have hz2 : n0 + 2 ≤ w2.heap.size := by have := hb2.size; omega
  have hc2 : w2.cell? ⟨g, 0, none⟩ = some (.slice A l.length c) := (hb2.cell (p := ⟨g, 0, none⟩) (by simp only; omega)).trans hcW
  have HD := Lib.hid (setdo_any (n0 + 2) (n0 + 2) g A l c w2 hc2 hw2 hz2 hl HKE.out (HA.out.below hb2))
  clear hw2 hb2 hc2 hcW
  go_wp2_with fail
  with_reducible refine HD.out.mono ?_
  rintro e w3 ⟨rfl, hw3, hb3⟩
  have L3 := Lib.hid (L2.out.trans hb3)
  have hz3 : n0 + 2 ≤ w3.heap.size := Nat.le_trans hz2 hb3.size
  have HY := Lib.hid (wbytes_any (n0 + 2) (n0 + 2) _ w3 hw3 (by rw [HLL.out]; omega))
  clear hw3 hb3 HD H2 L2
  go_wp2_with fail
  with_reducible refine HY.out.mono ?_
  rintro e w5 ⟨v, rfl, ho5, hb5⟩
  have L5 := Lib.hid (L3.out.trans (hb5.mono hz3))
  have hz5 : n0 + 2 ≤ w5.heap.size := Nat.le_trans hz3 hb5.size
  have O5 := Lib.hid ho5
  obtain ⟨A5, c5, rfl, _, _, _⟩ := own_sl ho5
  have k50 := HK0.out.below L5.out (by omega)
  have k51 := HK1.out.below L5.out (by omega)
  have c50 := k50.cell 0
  have f50 := k50.frozen 0
  have c51 : w5.cell? ⟨n0 + 1, 0, none⟩ = some (.int .i64 0) := k51.cell 0
  have f51 := k51.frozen 0
  have K0 := Lib.hid k50
  have K1 := Lib.hid k51
  clear ho5 hb5 L3 HY k50 k51
  go_upto_region 5 with fail
  have m0 := K0.out.set_ 0 (.slice A5 (setB l).length c5)
  have m1 := K1.out.far (p := ⟨n0, 0, none⟩) (by show n0 + 1 ≠ n0; omega) (.slice A5 (setB l).length c5)
  have m01 := m0.far (p := ⟨n0 + 1, 0, none⟩) (by show n0 ≠ n0 + 1; omega) (.int .i64 0)
  have m11 := m1.set_ 0 (.int .i64 0)
  have hL6 : Below n0 W ((w5.setCell ⟨n0, 0, none⟩ (.slice A5 (setB l).length c5)).setCell ⟨n0 + 1, 0, none⟩ (.int .i64 0)) :=
    (((L5.out.mono (show n0 ≤ n0 + 2 by omega)).setCell (p := ⟨n0, 0, none⟩) (Nat.le_refl _) _).setCell (p := ⟨n0 + 1, 0, none⟩) (by simp) _)
  have hne0 : some n0 ≠ (Value.slice A5 (setB l).length c5).ownBlock := fun e => by
    have := (own_cells O5.out e.symm).1
    omega
  have hne1 : some (n0 + 1) ≠ (Value.slice A5 (setB l).length c5).ownBlock := fun e => by
    have := (own_cells O5.out e.symm).1
    omega
  have O6 : Own8 ((w5.setCell ⟨n0, 0, none⟩ (.slice A5 (setB l).length c5)).setCell ⟨n0 + 1, 0, none⟩ (.int .i64 0)) n0 (.slice A5 (setB l).length c5) (setB l) :=
    own_far (own_far (own8_low O5.out (by omega)) (p := ⟨n0, 0, none⟩) hne0 _) (p := ⟨n0 + 1, 0, none⟩) hne1 _
  obtain ⟨w6, hw6⟩ : ∃ x, (w5.setCell ⟨n0, 0, none⟩ (.slice A5 (setB l).length c5)).setCell ⟨n0 + 1, 0, none⟩ (.int .i64 0) = x := ⟨_, rfl⟩
  rw [hw6] at m01 m11 hL6 O6 ⊢
  have HM0 := Lib.hid m01
  have HM1 := Lib.hid m11
  have HL6 := Lib.hid hL6
  have HO6 := Lib.hid O6
  have d0 : w6.cell? ⟨n0, 0, none⟩ = some (.slice A5 (setB l).length c5) := m01.cell 0
  have d1 : w6.cell? ⟨n0 + 1, 0, none⟩ = some (.int .i64 0) := m11.cell 0
  have z0 : w6.frozen? ⟨n0, 0, none⟩ = false := m01.frozen 0
  have z1 : w6.frozen? ⟨n0 + 1, 0, none⟩ = false := m11.frozen 0
  have HN0' := Lib.hid hne0
  have HN1' := Lib.hid hne1
  clear hw6 m0 m1 m01 m11 hL6 O6 c50 c51 f50 f51 K0 K1 hne0 hne1 O5
  go_wp2_with fail
  with_reducible refine (fmust_ok w6).mono ?_
  rintro e w7 ⟨rfl, rfl⟩
  go_wp2_with fail
  have q0 := (HM0.out.set_ 0 (.slice A5 (setB l).length c5)).far (p := ⟨n0 + 1, 0, none⟩) (by show n0 ≠ n0 + 1; omega) (.int .i64 0)
  have q1 := (HM1.out.far (p := ⟨n0, 0, none⟩) (by show n0 + 1 ≠ n0; omega) (.slice A5 (setB l).length c5)).set_ 0 (.int .i64 0)
  have qL := ((HL6.out.setCell (p := ⟨n0, 0, none⟩) (Nat.le_refl _) (.slice A5 (setB l).length c5)).setCell (p := ⟨n0 + 1, 0, none⟩) (by simp) (.int .i64 0))
  have qO := own_far (own_far HO6.out (p := ⟨n0, 0, none⟩) HN0'.out (.slice A5 (setB l).length c5)) (p := ⟨n0 + 1, 0, none⟩) HN1'.out (.int .i64 0)
  obtain ⟨w8, hw8⟩ : ∃ x, (w7.setCell ⟨n0, 0, none⟩ (.slice A5 (setB l).length c5)).setCell ⟨n0 + 1, 0, none⟩ (.int .i64 0) = x := ⟨_, rfl⟩
  rw [hw8] at q0 q1 qL qO ⊢
  have x0 : w8.cell? ⟨n0, 0, none⟩ = some (.slice A5 (setB l).length c5) := q0.cell 0
  have x1 : w8.cell? ⟨n0 + 1, 0, none⟩ = some (.int .i64 0) := q1.cell 0
  have hfin : Own8 w8 w.heap.size (.slice A5 (setB l).length c5) (setB l) ∧ Below w.heap.size w w8 :=
    ⟨by rw [HN0.out]; exact qO, by have := HB.out.trans (qL.mono (Nat.le_of_eq HN0.out)); exact this⟩
  have HF := Lib.hid hfin
  clear hw8 q0 q1 qL qO hfin HM0 HM1 HL6 HO6 HN0' HN1' d0 d1 z0 z1
  refine leaves_cons (f := 28) (args := #[.pointer (some ⟨n0, 0, none⟩), .pointer (some ⟨n0 + 1, 0, none⟩)]) (by simp) (by simp [go_sem]) ?_
  refine (idle_enc ⟨n0, 0, none⟩ ⟨n0 + 1, 0, none⟩ _).mono ?_
  rintro e u' w9 ⟨rfl, rfl, rfl⟩
  simp [Go.Leaves, settle, results, Tryd.results21, go_sem, x0, x1]
  exact HF.out

theorem encset_any (A : Option Addr) (l : List (Int × Int)) (c : Nat) (w : World) (hl : l.length ≤ 64) (hk : keysOk l) (hA : Sl w w.heap.size 2 A l.length (vCells l)) :
    Calls Tryd.prog 17 #[.slice A l.length c] w fun e w' => ∃ v, e = .returned (.tuple #[v, .int .i64 0]) ∧ Own8 w' w.heap.size v (setB l) ∧ Below w.heap.size w w' := by
  have hmf : ∀ (fn : Fn) (first cap : Array Value) (w : World), (Instr.makeFunc fn first cap).run Tryd.prog w = .ok (.func fn first cap) w := fun _ _ _ _ => rfl
  have hb1 : Below w.heap.size w (w.alloc (.cells #[.slice A l.length c] 22)) := (by (first | assumption | (repeat (first | exact Below.refl _ _ | assumption | apply Below.drew | apply below_drewN | (refine Below.setCell ?_ (by (try simp) <;> omega) _) | (refine Below.alloc ?_ (by (try simp) <;> omega) _)))))
  have c1 : (w.alloc (.cells #[.slice A l.length c] 22)).cell? ⟨w.heap.size, 0, none⟩ = some (.slice A l.length c) := (Bk.new w 22 #[.slice A l.length c]).cell 0
  have HE := Lib.hid (encode_any w.heap.size A l c _ c1 hl hk ((hA.below hb1).more hb1.size))
  have HB := Lib.hid hb1
  clear hk hA hb1 c1
  go_enter Tryd.func17, Tryd.ntmps17
  go_wp2_with fail
  with_reducible refine HE.out.mono ?_
  rintro e w2 ⟨v, rfl, ho, hb⟩
  have H2 := Lib.hid (HB.out.trans (hb.mono HB.out.size))
  have O2 := Lib.hid (own8_low ho HB.out.size)
  clear ho hb HE
  go_wp2_with fail
  go_ret2
  exact ⟨v, rfl, O2.out, H2.out⟩
end Go.Proofs.YthbkcjjpdhdidaaDoor

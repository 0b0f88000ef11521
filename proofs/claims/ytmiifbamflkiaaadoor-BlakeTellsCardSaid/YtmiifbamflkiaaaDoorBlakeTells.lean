/- What this text proves: the contract of the law BlakeTells. The conditions are how the arguments lie in memory, and that the package's table is as its text lays it. -/
import Derived.Test.YtmiifbamflkiaaaDoorBlakeTags
import Derived.Test.YtmiifbamflkiaaaDoorRefBlakeJ
import Derived.Test.YtmiifbamflkiaaaDoorRefBlakeT
import Derived.Test.YtmiifbamflkiaaaDoorEach
namespace Go.Proofs.YtmiifbamflkiaaaDoor
open Go.RowKit
set_option linter.unusedVariables false
set_option linter.unusedSimpArgs false

/-- What each operation of the law's last region yields. -/
def tellV (t : UInt8) (sp sq : Value) (gp : Nat) (D1 D2 h : List UInt8) (S : ByteArray) : Nat → Value → World → Prop
  | 0 => fun v _ => v = .bool true
  | 1 => fun v _ => v = .bool true
  | 2 => fun v _ => v = .int .u8 (t.toNat : Int)
  | 3 => fun v _ => v = .pointer (some ⟨gp, 0, none⟩)
  | 4 => fun v _ => v = sp
  | 5 => fun v _ => v = .pointer (some ⟨gp, 1, none⟩)
  | 6 => fun v _ => v = sq
  | 7 => fun v W => ∃ g, v = .slice (some ⟨g, 0, none⟩) 2 2 ∧ g < W.heap.size ∧ W.rangeAt g 0 [sp, sq]
  | 8 => fun v _ => v = .agg (bts D1).toArray
  | 9 => fun v _ => v = .int .u8 (t.toNat : Int)
  | 10 => fun v _ => v = .pointer (some ⟨gp, 0, none⟩)
  | 11 => fun v _ => v = sp
  | 12 => fun v _ => v = .pointer (some ⟨gp, 1, none⟩)
  | 13 => fun v _ => v = sq
  | 14 => fun v W => ∃ g, v = .slice (some ⟨g, 0, none⟩) 2 2 ∧ g < W.heap.size ∧ W.rangeAt g 0 [sp, sq]
  | 15 => fun v _ => v = .agg (bts D1).toArray
  | 16 => fun v _ => v = .bool true
  | 17 => fun v _ => v = .bool true
  | 18 => fun v _ => v = .bool true
  | 19 => fun v _ => v = .int .u8 (t.toNat : Int)
  | 20 => fun v _ => v = .agg (bts D2).toArray
  | 21 => fun v _ => v = .int .u8 (t.toNat : Int)
  | 22 => fun v _ => v = .agg (bts D2).toArray
  | 23 => fun v _ => v = .bool true
  | 24 => fun v _ => v = .bool true
  | 25 => fun v _ => v = .bool true
  | 26 => fun v _ => v = .agg (bts h).toArray
  | 27 => fun v _ => v = .string S
  | 28 => fun v _ => v = .agg (bts h).toArray
  | 29 => fun v _ => v = .string S
  | 30 => fun v _ => v = .bool true
  | 31 => fun v _ => v = .bool true
  | 32 => fun v _ => v = .bool true
  | _ => fun _ _ => True
theorem tellV_on {t : UInt8} {sp sq : Value} {gp : Nat} {D1 D2 h : List UInt8} {S : ByteArray} : ∀ (j : Nat) (v : Value) (W W' : World), tellV t sp sq gp D1 D2 h S j v W → Below W.heap.size W W' → tellV t sp sq gp D1 D2 h S j v W' := by
  intro j v W W' hv hb
  unfold tellV at hv ⊢
  split at hv
  all_goals first
    | exact hv
    | (obtain ⟨g, rfl, hg, hr⟩ := hv; exact ⟨g, rfl, Nat.lt_of_lt_of_le hg hb.size, rangeAt_below hr hb hg⟩)
attribute [local irreducible] digF textF
set_option maxRecDepth 100000 in
set_option maxHeartbeats 4000000 in
theorem tells_any (t : UInt8) (p q : Part) (h : List UInt8) (w : World) (hr : Roots w) (h0 : 0 < w.heap.size) (hp : p.good w) (hq : q.good w) (hh : h.length = 32) :
    Calls Tryd.prog 6 #[.int .u8 (t.toNat : Int), .agg #[slv p, slv q], .agg (bts h).toArray] w fun e w' => e = .returned (.bool true) ∧ Below w.heap.size w w' := by
  have HR := Lib.hid hr
  obtain ⟨pa, pc, pl⟩ := p
  obtain ⟨qa, qc, ql⟩ := q
  obtain ⟨hp1, hp2, hp3⟩ := hp
  obtain ⟨hq1, hq2, hq3⟩ := hq
  simp only at hp1 hp2 hp3 hq1 hq2 hq3
  have HP := Lib.hid hp3
  have HQ := Lib.hid hq3
  unfold maxLen at hp2 hq2
  clear hr hp3 hq3
  have L1 : Hid (Below w.heap.size w ((w.alloc (.cells #[.slice pa pl.length pc, .slice qa ql.length qc] 35)).alloc (.cells (bts h).toArray 25))) := Lib.hid (by (first | assumption | (repeat (first | exact Below.refl _ _ | assumption | apply Below.drew | apply below_drewN | (refine Below.setCell ?_ (by (try simp) <;> omega) _) | (refine Below.alloc ?_ (by (try simp) <;> omega) _)))))
  have B1 := Lib.hid ((Bk.new w 35 #[.slice pa pl.length pc, .slice qa ql.length qc]).alloc (.cells (bts h).toArray 25))
  have C1 := Lib.hid (Bk.new (w.alloc (.cells #[.slice pa pl.length pc, .slice qa ql.length qc] 35)) 25 (bts h).toArray)
  go_enter Tryd.func6, Tryd.ntmps6
  go_upto_region 1 with fail
  have z1 : (w.alloc (.cells #[.slice pa pl.length pc, .slice qa ql.length qc] 35)).heap.size = w.heap.size + 1 := by simp
  rw [z1] at C1
  simp only [slv]
  obtain ⟨w1, hw1⟩ : ∃ W, (w.alloc (.cells #[.slice pa pl.length pc, .slice qa ql.length qc] 35)).alloc (.cells (bts h).toArray 25) = W := ⟨_, rfl⟩
  rw [hw1] at L1 B1 C1 ⊢
  clear hw1 z1
  obtain ⟨gp, hgp⟩ : ∃ g, w.heap.size = g := ⟨_, rfl⟩
  have hgw : gp ≤ w1.heap.size := hgp ▸ L1.out.size
  obtain ⟨gh, hgh⟩ : ∃ g, w.heap.size + 1 = g := ⟨_, rfl⟩
  rw [hgh] at C1 ⊢
  rw [hgp] at B1 ⊢
  have c0 := B1.out.cell 0
  have c1 := B1.out.cell 1
  have hz1 : 0 < w1.heap.size := Nat.lt_of_lt_of_le h0 L1.out.size
  by_cases hbig : 2000 < pl.length
  · have e1 : decide ((2000 : Int) < (pl.length : Int)) = true := decide_eq_true (by omega)
    go_wp2_with fail
    with_reducible refine (alive_any w1 (HR.out.below L1.out h0) hz1).mono ?_
    rintro e w2 ⟨rfl, hb⟩
    go_wp2_with fail
    go_ret
    exact ⟨rfl, L1.out.trans (hb.mono L1.out.size)⟩
  have e1 : decide ((2000 : Int) < (pl.length : Int)) = false := decide_eq_false (by omega)
  by_cases hbig' : 2000 < ql.length
  · have e2 : decide ((2000 : Int) < (ql.length : Int)) = true := decide_eq_true (by omega)
    go_wp2_with fail
    with_reducible refine (alive_any w1 (HR.out.below L1.out h0) hz1).mono ?_
    rintro e w2 ⟨rfl, hb⟩
    go_wp2_with fail
    go_ret
    exact ⟨rfl, L1.out.trans (hb.mono L1.out.size)⟩
  have e2 : decide ((2000 : Int) < (ql.length : Int)) = false := decide_eq_false (by omega)
  go_upto_region 3 with fail
  clear e1 e2 c0 c1
  obtain ⟨D1, hD1⟩ : ∃ D, joinF t [(pa, pc, pl), (qa, qc, ql)] = D := ⟨_, rfl⟩
  obtain ⟨D2, hD2⟩ : ∃ D, joinF t [] = D := ⟨_, rfl⟩
  obtain ⟨S, hS⟩ : ∃ S : ByteArray, ⟨(textF h).toArray⟩ = S := ⟨_, rfl⟩
  have hd1 : D1.length = 32 := by rw [← hD1, joinF, digF_len]
  have hd2 : D2.length = 32 := by rw [← hD2, joinF, digF_len]
  have LD : Hid (Below w.heap.size w w1.drew) := Lib.hid L1.out.drew
  have HW : Hid (∀ W, Below w1.drew.heap.size w1.drew W → Roots W ∧ 0 < W.heap.size ∧ Below w.heap.size w W ∧ W.cell? ⟨gp, 0, none⟩ = some (.slice pa pl.length pc) ∧ W.cell? ⟨gp, 1, none⟩ = some (.slice qa ql.length qc) ∧ W.rangeAt gh 0 (bts h)) := Lib.hid (fun W hb =>
    have hB := LD.out.trans (hb.mono LD.out.size)
    ⟨HR.out.below hB h0, Nat.lt_of_lt_of_le h0 hB.size, hB, (hb.cell (p := ⟨gp, 0, none⟩) B1.out.drew.lt).trans (B1.out.drew.cell 0), (hb.cell (p := ⟨gp, 1, none⟩) B1.out.drew.lt).trans (B1.out.drew.cell 1), rangeAt_below C1.out.drew.all hb C1.out.drew.lt⟩)
  have hJ1 : Hid (∀ W g, Below w1.drew.heap.size w1.drew W → g < W.heap.size → W.rangeAt g 0 [.slice pa pl.length pc, .slice qa ql.length qc] → Calls Tryd.prog 15 #[.int .u8 (t.toNat : Int), .slice (some ⟨g, 0, none⟩) 2 2] W fun e W' => e = .returned (.agg (bts D1).toArray) ∧ Below W.heap.size W W') := Lib.hid (fun W g hb hg hr => by
    obtain ⟨h1, h2, h3, _⟩ := HW.out W hb
    have := join_any t (some ⟨g, 0, none⟩) [(pa, pc, pl), (qa, qc, ql)] 2 W h1 h2 (by unfold maxLen; simp) ⟨rfl, fun _ => ⟨g, 0, rfl, hg, fun j u hu => hr j u hu⟩⟩ (fun r hr => by
      rcases List.mem_cons.1 hr with rfl | hr
      · exact ⟨hp1, by unfold maxLen; omega, (HP.out.below h3).more h3.size⟩
      · rcases List.mem_cons.1 hr with rfl | hr
        · exact ⟨hq1, by unfold maxLen; omega, (HQ.out.below h3).more h3.size⟩
        · cases hr)
    rw [hD1] at this
    exact this)
  have hJ2 : Hid (∀ W g, Below w1.drew.heap.size w1.drew W → g < W.heap.size → W.rangeAt g 0 [.slice pa pl.length pc, .slice qa ql.length qc] → Calls Tryd.prog 16 #[.int .u8 (t.toNat : Int), .slice (some ⟨g, 0, none⟩) 2 2] W fun e W' => e = .returned (.agg (bts D1).toArray) ∧ Below W.heap.size W W') := Lib.hid (fun W g hb hg hr => by
    obtain ⟨h1, h2, h3, _⟩ := HW.out W hb
    have := rjoin_any t (some ⟨g, 0, none⟩) [(pa, pc, pl), (qa, qc, ql)] 2 W (by unfold maxLen; simp) (by simp [catF]; omega) ⟨rfl, fun _ => ⟨g, 0, rfl, hg, fun j u hu => hr j u hu⟩⟩ (fun r hr => by
      rcases List.mem_cons.1 hr with rfl | hr
      · exact ⟨hp1, by unfold maxLen; omega, (HP.out.below h3).more h3.size⟩
      · rcases List.mem_cons.1 hr with rfl | hr
        · exact ⟨hq1, by unfold maxLen; omega, (HQ.out.below h3).more h3.size⟩
        · cases hr)
    rw [hD1] at this
    exact this)
  have hN1 : Hid (∀ W, Below w1.drew.heap.size w1.drew W → Calls Tryd.prog 15 #[.int .u8 (t.toNat : Int), .slice none 0 0] W fun e W' => e = .returned (.agg (bts D2).toArray) ∧ Below W.heap.size W W') := Lib.hid (fun W hb => by
    obtain ⟨h1, h2, h3, _⟩ := HW.out W hb
    have := join_any t none [] 0 W h1 h2 (by simp) (Sl.nil _ _ _ _) (fun r hr => by cases hr)
    rw [hD2] at this
    exact this)
  have hN2 : Hid (∀ W, Below w1.drew.heap.size w1.drew W → Calls Tryd.prog 16 #[.int .u8 (t.toNat : Int), .slice none 0 0] W fun e W' => e = .returned (.agg (bts D2).toArray) ∧ Below W.heap.size W W') := Lib.hid (fun W hb => by
    have := rjoin_any t none [] 0 W (by simp) (by simp [catF]) (Sl.nil _ _ _ _) (fun r hr => by cases hr)
    rw [hD2] at this
    exact this)
  have hT1 : Hid (∀ W, Calls Tryd.prog 17 #[.agg (bts h).toArray] W fun e W' => e = .returned (.string S) ∧ Below W.heap.size W W') := Lib.hid (fun W => by rw [← hS]; exact text_any h hh W)
  have hT2 : Hid (∀ W, Calls Tryd.prog 18 #[.agg (bts h).toArray] W fun e W' => e = .returned (.string S) ∧ Below W.heap.size W W') := Lib.hid (fun W => by rw [← hS]; exact rtext_any h hh W)
  clear hD1 hD2 hS hbig hbig' hp1 hp2 hq1 hq2
  refine wp_region_each (tellV t (.slice pa pl.length pc) (.slice qa ql.length qc) gp D1 D2 h S) (by kernel_rfl) (by kernel_rfl) tellV_on ?turns ?fin
  case turns =>
    refine ⟨fun a W pre => ?_, fun a W pre => ?_, fun a W pre => ?_, fun a W pre => ?_, fun a W pre => ?_, fun a W pre => ?_, fun a W pre => ?_, fun a W pre => ?_, fun a W pre => ?_, fun a W pre => ?_, fun a W pre => ?_, fun a W pre => ?_, fun a W pre => ?_, fun a W pre => ?_, fun a W pre => ?_, fun a W pre => ?_, fun a W pre => ?_, fun a W pre => ?_, fun a W pre => ?_, fun a W pre => ?_, fun a W pre => ?_, fun a W pre => ?_, fun a W pre => ?_, fun a W pre => ?_, fun a W pre => ?_, fun a W pre => ?_, fun a W pre => ?_, fun a W pre => ?_, fun a W pre => ?_, fun a W pre => ?_, fun a W pre => ?_, fun a W pre => ?_, fun a W pre => ?_, trivial⟩
    · obtain ⟨w1_, w2_, w3_, cg0, cg1, rgh⟩ := HW.out W pre.b
      exact does_call (want_none rfl) (by go_simp) (alive_any W w1_ w2_) (fun _ => rfl)
    · have e18 : a.eval (.tmp 18) = .bool true := pre.val 0 18 (by kernel_rfl) (by kernel_rfl)
      have q18 := e18
      rw [Act.eval, Array.getD_eq_getD_getElem?] at q18
      exact does_val (want_none rfl) (by go_simp) rfl
    · have e0 : a.eval (.tmp 0) = .int .u8 (t.toNat : Int) := pre.was 0 (by kernel_rfl) rfl
      have q0 := e0
      rw [Act.eval, Array.getD_eq_getD_getElem?] at q0
      exact does_val (want_some (b := true) (g := 1) (dg := 19) rfl (by kernel_rfl) (by rw [pre.size]; simp) (pre.val 1 19 (by kernel_rfl) (by kernel_rfl))) (by go_simp) rfl
    · have e4 : a.eval (.tmp 4) = .pointer (some ⟨gp, 0, none⟩) := pre.was 4 (by kernel_rfl) rfl
      have q4 := e4
      rw [Act.eval, Array.getD_eq_getD_getElem?] at q4
      exact does_val (want_some (b := true) (g := 1) (dg := 19) rfl (by kernel_rfl) (by rw [pre.size]; simp) (pre.val 1 19 (by kernel_rfl) (by kernel_rfl))) (by go_simp) rfl
    · have e21 : a.eval (.tmp 21) = .pointer (some ⟨gp, 0, none⟩) := pre.val 3 21 (by kernel_rfl) (by kernel_rfl)
      have q21 := e21
      rw [Act.eval, Array.getD_eq_getD_getElem?] at q21
      obtain ⟨w1_, w2_, w3_, cg0, cg1, rgh⟩ := HW.out W pre.b
      exact does_val (want_some (b := true) (g := 1) (dg := 19) rfl (by kernel_rfl) (by rw [pre.size]; simp) (pre.val 1 19 (by kernel_rfl) (by kernel_rfl))) (by go_simp) rfl
    · have e4 : a.eval (.tmp 4) = .pointer (some ⟨gp, 0, none⟩) := pre.was 4 (by kernel_rfl) rfl
      have q4 := e4
      rw [Act.eval, Array.getD_eq_getD_getElem?] at q4
      exact does_val (want_some (b := true) (g := 1) (dg := 19) rfl (by kernel_rfl) (by rw [pre.size]; simp) (pre.val 1 19 (by kernel_rfl) (by kernel_rfl))) (by go_simp) rfl
    · have e23 : a.eval (.tmp 23) = .pointer (some ⟨gp, 1, none⟩) := pre.val 5 23 (by kernel_rfl) (by kernel_rfl)
      have q23 := e23
      rw [Act.eval, Array.getD_eq_getD_getElem?] at q23
      obtain ⟨w1_, w2_, w3_, cg0, cg1, rgh⟩ := HW.out W pre.b
      exact does_val (want_some (b := true) (g := 1) (dg := 19) rfl (by kernel_rfl) (by rw [pre.size]; simp) (pre.val 1 19 (by kernel_rfl) (by kernel_rfl))) (by go_simp) rfl
    · have e22 : a.eval (.tmp 22) = .slice pa pl.length pc := pre.val 4 22 (by kernel_rfl) (by kernel_rfl)
      have q22 := e22
      rw [Act.eval, Array.getD_eq_getD_getElem?] at q22
      have e24 : a.eval (.tmp 24) = .slice qa ql.length qc := pre.val 6 24 (by kernel_rfl) (by kernel_rfl)
      have q24 := e24
      rw [Act.eval, Array.getD_eq_getD_getElem?] at q24
      have hb_ : Below W.heap.size W (W.alloc (.cells #[.slice pa pl.length pc, .slice qa ql.length qc] 22)) := (by (first | assumption | (repeat (first | exact Below.refl _ _ | assumption | apply Below.drew | apply below_drewN | (refine Below.setCell ?_ (by (try simp) <;> omega) _) | (refine Below.alloc ?_ (by (try simp) <;> omega) _)))))
      have bk_ := Bk.new W 22 #[.slice pa pl.length pc, .slice qa ql.length qc]
      exact does_new (want_some (b := true) (g := 1) (dg := 19) rfl (by kernel_rfl) (by rw [pre.size]; simp) (pre.val 1 19 (by kernel_rfl) (by kernel_rfl))) (by go_simp) hb_ ⟨W.heap.size, rfl, bk_.lt, fun j u hu => by rw [Nat.zero_add, bk_.cell]; simpa using hu⟩
    · have e20 : a.eval (.tmp 20) = .int .u8 (t.toNat : Int) := pre.val 2 20 (by kernel_rfl) (by kernel_rfl)
      have q20 := e20
      rw [Act.eval, Array.getD_eq_getD_getElem?] at q20
      obtain ⟨g, hv_, hg_, hr_⟩ := pre.val 7 25 (by kernel_rfl) (by kernel_rfl)
      have q25 := hv_
      rw [Array.getD_eq_getD_getElem?] at q25
      exact does_call (want_some (b := true) (g := 1) (dg := 19) rfl (by kernel_rfl) (by rw [pre.size]; simp) (pre.val 1 19 (by kernel_rfl) (by kernel_rfl))) (by go_simp) (hJ1.out W g pre.b hg_ hr_) (fun _ => rfl)
    · have e0 : a.eval (.tmp 0) = .int .u8 (t.toNat : Int) := pre.was 0 (by kernel_rfl) rfl
      have q0 := e0
      rw [Act.eval, Array.getD_eq_getD_getElem?] at q0
      exact does_val (want_some (b := true) (g := 1) (dg := 19) rfl (by kernel_rfl) (by rw [pre.size]; simp) (pre.val 1 19 (by kernel_rfl) (by kernel_rfl))) (by go_simp) rfl
    · have e4 : a.eval (.tmp 4) = .pointer (some ⟨gp, 0, none⟩) := pre.was 4 (by kernel_rfl) rfl
      have q4 := e4
      rw [Act.eval, Array.getD_eq_getD_getElem?] at q4
      exact does_val (want_some (b := true) (g := 1) (dg := 19) rfl (by kernel_rfl) (by rw [pre.size]; simp) (pre.val 1 19 (by kernel_rfl) (by kernel_rfl))) (by go_simp) rfl
    · have e28 : a.eval (.tmp 28) = .pointer (some ⟨gp, 0, none⟩) := pre.val 10 28 (by kernel_rfl) (by kernel_rfl)
      have q28 := e28
      rw [Act.eval, Array.getD_eq_getD_getElem?] at q28
      obtain ⟨w1_, w2_, w3_, cg0, cg1, rgh⟩ := HW.out W pre.b
      exact does_val (want_some (b := true) (g := 1) (dg := 19) rfl (by kernel_rfl) (by rw [pre.size]; simp) (pre.val 1 19 (by kernel_rfl) (by kernel_rfl))) (by go_simp) rfl
    · have e4 : a.eval (.tmp 4) = .pointer (some ⟨gp, 0, none⟩) := pre.was 4 (by kernel_rfl) rfl
      have q4 := e4
      rw [Act.eval, Array.getD_eq_getD_getElem?] at q4
      exact does_val (want_some (b := true) (g := 1) (dg := 19) rfl (by kernel_rfl) (by rw [pre.size]; simp) (pre.val 1 19 (by kernel_rfl) (by kernel_rfl))) (by go_simp) rfl
    · have e30 : a.eval (.tmp 30) = .pointer (some ⟨gp, 1, none⟩) := pre.val 12 30 (by kernel_rfl) (by kernel_rfl)
      have q30 := e30
      rw [Act.eval, Array.getD_eq_getD_getElem?] at q30
      obtain ⟨w1_, w2_, w3_, cg0, cg1, rgh⟩ := HW.out W pre.b
      exact does_val (want_some (b := true) (g := 1) (dg := 19) rfl (by kernel_rfl) (by rw [pre.size]; simp) (pre.val 1 19 (by kernel_rfl) (by kernel_rfl))) (by go_simp) rfl
    · have e29 : a.eval (.tmp 29) = .slice pa pl.length pc := pre.val 11 29 (by kernel_rfl) (by kernel_rfl)
      have q29 := e29
      rw [Act.eval, Array.getD_eq_getD_getElem?] at q29
      have e31 : a.eval (.tmp 31) = .slice qa ql.length qc := pre.val 13 31 (by kernel_rfl) (by kernel_rfl)
      have q31 := e31
      rw [Act.eval, Array.getD_eq_getD_getElem?] at q31
      have hb_ : Below W.heap.size W (W.alloc (.cells #[.slice pa pl.length pc, .slice qa ql.length qc] 22)) := (by (first | assumption | (repeat (first | exact Below.refl _ _ | assumption | apply Below.drew | apply below_drewN | (refine Below.setCell ?_ (by (try simp) <;> omega) _) | (refine Below.alloc ?_ (by (try simp) <;> omega) _)))))
      have bk_ := Bk.new W 22 #[.slice pa pl.length pc, .slice qa ql.length qc]
      exact does_new (want_some (b := true) (g := 1) (dg := 19) rfl (by kernel_rfl) (by rw [pre.size]; simp) (pre.val 1 19 (by kernel_rfl) (by kernel_rfl))) (by go_simp) hb_ ⟨W.heap.size, rfl, bk_.lt, fun j u hu => by rw [Nat.zero_add, bk_.cell]; simpa using hu⟩
    · have e27 : a.eval (.tmp 27) = .int .u8 (t.toNat : Int) := pre.val 9 27 (by kernel_rfl) (by kernel_rfl)
      have q27 := e27
      rw [Act.eval, Array.getD_eq_getD_getElem?] at q27
      obtain ⟨g, hv_, hg_, hr_⟩ := pre.val 14 32 (by kernel_rfl) (by kernel_rfl)
      have q32 := hv_
      rw [Array.getD_eq_getD_getElem?] at q32
      exact does_call (want_some (b := true) (g := 1) (dg := 19) rfl (by kernel_rfl) (by rw [pre.size]; simp) (pre.val 1 19 (by kernel_rfl) (by kernel_rfl))) (by go_simp) (hJ2.out W g pre.b hg_ hr_) (fun _ => rfl)
    · have e26 : a.eval (.tmp 26) = .agg (bts D1).toArray := pre.val 8 26 (by kernel_rfl) (by kernel_rfl)
      have e33 : a.eval (.tmp 33) = .agg (bts D1).toArray := pre.val 15 33 (by kernel_rfl) (by kernel_rfl)
      exact does_val (want_some (b := true) (g := 1) (dg := 19) rfl (by kernel_rfl) (by rw [pre.size]; simp) (pre.val 1 19 (by kernel_rfl) (by kernel_rfl))) (run_same _ _ _ (by rfl) D1 e26 e33 hd1) rfl
    · have e19 : a.eval (.tmp 19) = .bool true := pre.val 1 19 (by kernel_rfl) (by kernel_rfl)
      have q19 := e19
      rw [Act.eval, Array.getD_eq_getD_getElem?] at q19
      have e34 : a.eval (.tmp 34) = .bool true := pre.val 16 34 (by kernel_rfl) (by kernel_rfl)
      have q34 := e34
      rw [Act.eval, Array.getD_eq_getD_getElem?] at q34
      exact does_val (want_none rfl) (by go_simp) rfl
    · have e35 : a.eval (.tmp 35) = .bool true := pre.val 17 35 (by kernel_rfl) (by kernel_rfl)
      have q35 := e35
      rw [Act.eval, Array.getD_eq_getD_getElem?] at q35
      exact does_val (want_none rfl) (by go_simp) rfl
    · have e0 : a.eval (.tmp 0) = .int .u8 (t.toNat : Int) := pre.was 0 (by kernel_rfl) rfl
      have q0 := e0
      rw [Act.eval, Array.getD_eq_getD_getElem?] at q0
      exact does_val (want_some (b := true) (g := 18) (dg := 36) rfl (by kernel_rfl) (by rw [pre.size]; simp) (pre.val 18 36 (by kernel_rfl) (by kernel_rfl))) (by go_simp) rfl
    · have e37 : a.eval (.tmp 37) = .int .u8 (t.toNat : Int) := pre.val 19 37 (by kernel_rfl) (by kernel_rfl)
      have q37 := e37
      rw [Act.eval, Array.getD_eq_getD_getElem?] at q37
      exact does_call (want_some (b := true) (g := 18) (dg := 36) rfl (by kernel_rfl) (by rw [pre.size]; simp) (pre.val 18 36 (by kernel_rfl) (by kernel_rfl))) (by go_simp) (hN1.out W pre.b) (fun _ => rfl)
    · have e0 : a.eval (.tmp 0) = .int .u8 (t.toNat : Int) := pre.was 0 (by kernel_rfl) rfl
      have q0 := e0
      rw [Act.eval, Array.getD_eq_getD_getElem?] at q0
      exact does_val (want_some (b := true) (g := 18) (dg := 36) rfl (by kernel_rfl) (by rw [pre.size]; simp) (pre.val 18 36 (by kernel_rfl) (by kernel_rfl))) (by go_simp) rfl
    · have e39 : a.eval (.tmp 39) = .int .u8 (t.toNat : Int) := pre.val 21 39 (by kernel_rfl) (by kernel_rfl)
      have q39 := e39
      rw [Act.eval, Array.getD_eq_getD_getElem?] at q39
      exact does_call (want_some (b := true) (g := 18) (dg := 36) rfl (by kernel_rfl) (by rw [pre.size]; simp) (pre.val 18 36 (by kernel_rfl) (by kernel_rfl))) (by go_simp) (hN2.out W pre.b) (fun _ => rfl)
    · have e38 : a.eval (.tmp 38) = .agg (bts D2).toArray := pre.val 20 38 (by kernel_rfl) (by kernel_rfl)
      have e40 : a.eval (.tmp 40) = .agg (bts D2).toArray := pre.val 22 40 (by kernel_rfl) (by kernel_rfl)
      exact does_val (want_some (b := true) (g := 18) (dg := 36) rfl (by kernel_rfl) (by rw [pre.size]; simp) (pre.val 18 36 (by kernel_rfl) (by kernel_rfl))) (run_same _ _ _ (by rfl) D2 e38 e40 hd2) rfl
    · have e36 : a.eval (.tmp 36) = .bool true := pre.val 18 36 (by kernel_rfl) (by kernel_rfl)
      have q36 := e36
      rw [Act.eval, Array.getD_eq_getD_getElem?] at q36
      have e41 : a.eval (.tmp 41) = .bool true := pre.val 23 41 (by kernel_rfl) (by kernel_rfl)
      have q41 := e41
      rw [Act.eval, Array.getD_eq_getD_getElem?] at q41
      exact does_val (want_none rfl) (by go_simp) rfl
    · have e42 : a.eval (.tmp 42) = .bool true := pre.val 24 42 (by kernel_rfl) (by kernel_rfl)
      have q42 := e42
      rw [Act.eval, Array.getD_eq_getD_getElem?] at q42
      exact does_val (want_none rfl) (by go_simp) rfl
    · obtain ⟨w1_, w2_, w3_, cg0, cg1, rgh⟩ := HW.out W pre.b
      have e5 : a.eval (.tmp 5) = .pointer (some ⟨gh, 0, none⟩) := pre.was 5 (by kernel_rfl) rfl
      exact does_val (want_some (b := true) (g := 25) (dg := 43) rfl (by kernel_rfl) (by rw [pre.size]; simp) (pre.val 25 43 (by kernel_rfl) (by kernel_rfl))) (run_ldh _ (by rfl) gh 0 e5 h hh rgh) rfl
    · have e44 : a.eval (.tmp 44) = .agg (bts h).toArray := pre.val 26 44 (by kernel_rfl) (by kernel_rfl)
      have q44 := e44
      rw [Act.eval, Array.getD_eq_getD_getElem?] at q44
      exact does_call (want_some (b := true) (g := 25) (dg := 43) rfl (by kernel_rfl) (by rw [pre.size]; simp) (pre.val 25 43 (by kernel_rfl) (by kernel_rfl))) (by go_simp) (hT1.out W) (fun _ => rfl)
    · obtain ⟨w1_, w2_, w3_, cg0, cg1, rgh⟩ := HW.out W pre.b
      have e5 : a.eval (.tmp 5) = .pointer (some ⟨gh, 0, none⟩) := pre.was 5 (by kernel_rfl) rfl
      exact does_val (want_some (b := true) (g := 25) (dg := 43) rfl (by kernel_rfl) (by rw [pre.size]; simp) (pre.val 25 43 (by kernel_rfl) (by kernel_rfl))) (run_ldh _ (by rfl) gh 0 e5 h hh rgh) rfl
    · have e46 : a.eval (.tmp 46) = .agg (bts h).toArray := pre.val 28 46 (by kernel_rfl) (by kernel_rfl)
      have q46 := e46
      rw [Act.eval, Array.getD_eq_getD_getElem?] at q46
      exact does_call (want_some (b := true) (g := 25) (dg := 43) rfl (by kernel_rfl) (by rw [pre.size]; simp) (pre.val 25 43 (by kernel_rfl) (by kernel_rfl))) (by go_simp) (hT2.out W) (fun _ => rfl)
    · have e45 : a.eval (.tmp 45) = .string S := pre.val 27 45 (by kernel_rfl) (by kernel_rfl)
      have q45 := e45
      rw [Act.eval, Array.getD_eq_getD_getElem?] at q45
      have e47 : a.eval (.tmp 47) = .string S := pre.val 29 47 (by kernel_rfl) (by kernel_rfl)
      have q47 := e47
      rw [Act.eval, Array.getD_eq_getD_getElem?] at q47
      exact does_val (want_some (b := true) (g := 25) (dg := 43) rfl (by kernel_rfl) (by rw [pre.size]; simp) (pre.val 25 43 (by kernel_rfl) (by kernel_rfl))) (by go_simp) rfl
    · have e43 : a.eval (.tmp 43) = .bool true := pre.val 25 43 (by kernel_rfl) (by kernel_rfl)
      have q43 := e43
      rw [Act.eval, Array.getD_eq_getD_getElem?] at q43
      have e48 : a.eval (.tmp 48) = .bool true := pre.val 30 48 (by kernel_rfl) (by kernel_rfl)
      have q48 := e48
      rw [Act.eval, Array.getD_eq_getD_getElem?] at q48
      exact does_val (want_none rfl) (by go_simp) rfl
    · have e49 : a.eval (.tmp 49) = .bool true := pre.val 31 49 (by kernel_rfl) (by kernel_rfl)
      have q49 := e49
      rw [Act.eval, Array.getD_eq_getD_getElem?] at q49
      exact does_val (want_none rfl) (by go_simp) rfl
  case fin =>
    intro a W hb hs hd hv ho
    have q6 : a.tmps[6]?.getD undef = .bool true := by
      have := hv 32 6 (by kernel_rfl)
      rw [Array.getD_eq_getD_getElem?] at this
      exact this
    have hB := LD.out.trans (hb.mono LD.out.size)
    go_wp2_with fail
    refine bodyPost_ret (results_tmp rfl _ _ _) hd ?_
    exact ⟨congrArg Ending.returned (by simpa using q6), by first | exact hB | exact hgp ▸ hB⟩
theorem tells_walk (t : UInt8) (p q : Part) {w : World} (hp : p.good w) (hq : q.good w) (h : List UInt8) (hh : h.length = 32) (_ : World) (hr : Roots w ∧ 0 < w.heap.size) :
    Calls Tryd.prog 6 #[.int .u8 (t.toNat : Int), .agg #[slv p, slv q], .agg (bts h).toArray] w fun e w' => e = .returned (.bool true) ∧ Below w.heap.size w w' := tells_any t p q h w hr.1 hr.2 hp hq hh
end Go.Proofs.YtmiifbamflkiaaaDoor


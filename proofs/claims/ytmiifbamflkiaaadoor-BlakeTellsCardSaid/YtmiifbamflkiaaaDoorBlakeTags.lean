/- What this text proves: the contract of the law BlakeTags. The conditions are how the arguments lie in memory, and that the package's table is as its text lays it. -/
import Derived.Test.YtmiifbamflkiaaaDoorBlakeJoin
namespace Go.Proofs.YtmiifbamflkiaaaDoor
open Go.RowKit
set_option linter.unusedVariables false
set_option linter.unusedSimpArgs false

theorem textF_inj {l m : List UInt8} (h : textF l = textF m) : l = m := by
  have hx : ∀ c d : Fin 256, hexC (c.val / 16) = hexC (d.val / 16) → hexC (c.val % 16) = hexC (d.val % 16) → c = d := by
    have h1 : ∀ i j : Fin 16, hexC i.val = hexC j.val → i = j := by decide +kernel
    intro c d h2 h3
    have a := h1 ⟨c.val / 16, by omega⟩ ⟨d.val / 16, by omega⟩ h2
    have b := h1 ⟨c.val % 16, by omega⟩ ⟨d.val % 16, by omega⟩ h3
    simp only [Fin.mk.injEq] at a b
    apply Fin.ext
    omega
  induction l generalizing m with
  | nil => cases m with
    | nil => rfl
    | cons d m => simp [textF] at h
  | cons c l ih => cases m with
    | nil => simp [textF] at h
    | cons d m =>
      simp only [textF, List.flatMap_cons, List.cons_append, List.nil_append, List.cons.injEq] at h
      obtain ⟨h1, h2, h3⟩ := h
      have e := hx ⟨c.toNat, c.toNat_lt⟩ ⟨d.toNat, d.toNat_lt⟩ h1 h2
      simp only [Fin.mk.injEq] at e
      rw [ih h3, UInt8.toNat_inj.1 e]

theorem run_diff {o : Oper} {a : Act} {w : World} (x y : Operand) (ty : TypeId) (ho : o.op = .binOp .eql 25 x y ty) (p q : List UInt8) (hx : a.eval x = .agg (bts p).toArray) (hy : a.eval y = .agg (bts q).toArray) (hp : p.length = 32) (hq : q.length = 32) (hpq : (p == q) = false) :
    (execOp a.eval o).run Tryd.prog w = .ok (.value (.bool false)) w := by
  have h := run_eqh (w := w) x y ty ho p q hx hy hp hq
  rwa [hpq] at h
attribute [local irreducible] digF textF
set_option maxRecDepth 100000 in
set_option maxHeartbeats 4000000 in
theorem tags_any (t : UInt8) (p q : Part) (x y : List UInt8) (w : World) (hr : Roots w) (h0 : 0 < w.heap.size) (hp : p.good w) (hq : q.good w) (hx : x.length = 32) (hy : y.length = 32) :
    Calls Tryd.prog 7 #[.int .u8 (t.toNat : Int), .agg #[slv p, slv q], .agg (bts x ++ bts y).toArray] w fun e w' => e = .returned (.bool true) ∧ Below w.heap.size w w' := by
  have HR := Lib.hid hr
  obtain ⟨pa, pc, pl⟩ := p
  obtain ⟨qa, qc, ql⟩ := q
  obtain ⟨hp1, hp2, hp3⟩ := hp
  obtain ⟨hq1, hq2, hq3⟩ := hq
  simp only at hp1 hp2 hp3 hq1 hq2 hq3
  have HP := Lib.hid hp3
  have HQ := Lib.hid hq3
  unfold maxLen at hp2 hq2
  clear hr hp3 hq3
  have L1 : Hid (Below w.heap.size w ((w.alloc (.cells #[.slice pa pl.length pc, .slice qa ql.length qc] 35)).alloc (.cells (bts x ++ bts y).toArray 39))) := Lib.hid (by (first | assumption | (repeat (first | exact Below.refl _ _ | assumption | apply Below.drew | apply below_drewN | (refine Below.setCell ?_ (by (try simp) <;> omega) _) | (refine Below.alloc ?_ (by (try simp) <;> omega) _)))))
  have B1 := Lib.hid ((Bk.new w 35 #[.slice pa pl.length pc, .slice qa ql.length qc]).alloc (.cells (bts x ++ bts y).toArray 39))
  have C1 := Lib.hid (Bk.new (w.alloc (.cells #[.slice pa pl.length pc, .slice qa ql.length qc] 35)) 39 (bts x ++ bts y).toArray)
  go_enter Tryd.func7, Tryd.ntmps7
  go_upto_region 1 with fail
  have z1 : (w.alloc (.cells #[.slice pa pl.length pc, .slice qa ql.length qc] 35)).heap.size = w.heap.size + 1 := by simp
  rw [z1] at C1
  simp only [slv]
  obtain ⟨w1, hw1⟩ : ∃ W, (w.alloc (.cells #[.slice pa pl.length pc, .slice qa ql.length qc] 35)).alloc (.cells (bts x ++ bts y).toArray 39) = W := ⟨_, rfl⟩
  rw [hw1] at L1 B1 C1 ⊢
  clear hw1 z1
  obtain ⟨gp, hgp⟩ : ∃ g, w.heap.size = g := ⟨_, rfl⟩
  have hgw : gp ≤ w1.heap.size := hgp ▸ L1.out.size
  obtain ⟨gh, hgh⟩ : ∃ g, w.heap.size + 1 = g := ⟨_, rfl⟩
  rw [hgh] at C1 ⊢
  rw [hgp] at B1 ⊢
  have c0 := B1.out.cell 0
  have c1 := B1.out.cell 1
  have hz1 : 0 < w1.heap.size := Nat.lt_of_lt_of_le h0 L1.out.size
  by_cases hbig : 2000 < pl.length
  · have e1 : decide ((2000 : Int) < (pl.length : Int)) = true := decide_eq_true (by omega)
    go_wp2_with fail
    with_reducible refine (alive_any w1 (HR.out.below L1.out h0) hz1).mono ?_
    rintro e w2 ⟨rfl, hb⟩
    go_wp2_with fail
    go_ret
    exact ⟨rfl, L1.out.trans (hb.mono L1.out.size)⟩
  have e1 : decide ((2000 : Int) < (pl.length : Int)) = false := decide_eq_false (by omega)
  by_cases hbig' : 2000 < ql.length
  · have e2 : decide ((2000 : Int) < (ql.length : Int)) = true := decide_eq_true (by omega)
    go_wp2_with fail
    with_reducible refine (alive_any w1 (HR.out.below L1.out h0) hz1).mono ?_
    rintro e w2 ⟨rfl, hb⟩
    go_wp2_with fail
    go_ret
    exact ⟨rfl, L1.out.trans (hb.mono L1.out.size)⟩
  have e2 : decide ((2000 : Int) < (ql.length : Int)) = false := decide_eq_false (by omega)
  obtain ⟨i0, hi, hz0, hz1', hz2⟩ := info_parts u8_info
  have O1 := Lib.hid (World.ownsRow_lit (base := w1.heap.size) (e := 5) (size := 1) w1 #[.int .u8 (t.toNat : Int)] 1 (Nat.le_refl _) (by unfold maxLen; omega) (by simp))
  have L2 : Hid (Below w1.heap.size w1 (w1.alloc (.cells #[.int .u8 (t.toNat : Int)] 5))) := Lib.hid (by (first | assumption | (repeat (first | exact Below.refl _ _ | assumption | apply Below.drew | apply below_drewN | (refine Below.setCell ?_ (by (try simp) <;> omega) _) | (refine Below.alloc ?_ (by (try simp) <;> omega) _)))))
  have d0 := (L2.out.cell (p := ⟨gp, 0, none⟩) B1.out.lt).trans c0
  have hb1 : pl.length ≤ 2000 := by omega
  have hb2 : ql.length ≤ 2000 := by omega
  go_upto_region 4 with (refine wpList_append_sl (w1.alloc (.cells #[.int .u8 (t.toNat : Int)] 5)) (by rfl) _ _ 22 (by rfl) w1.heap.size 5 i0 _ 1 1 Tryd.underlying22 hi hz0 hz1' hz2 rfl (by omega) (.slice (some ⟨w1.heap.size, 0, none⟩) 1 1) 1 [.int .u8 (t.toNat : Int)] (by rfl) O1.out pa pl.length pc (bts pl) (by rfl) ((HP.out.below (L1.out.trans (L2.out.mono L1.out.size))).more (Nat.le_trans L1.out.size L2.out.size)) bts_one (by unfold maxLen; omega) (by omega) (by simp) ?_; intro v2 w2 ho_ hg_ hv_; have O2 := Lib.hid ho_; have L3 : Hid (Below w1.heap.size w1 w2) := Lib.hid (L2.out.grown hg_ (by simp) (fun k hk => (own_cells O1.out hk).1)); clear ho_ hg_ hv_)
  have d1 := (L3.out.cell (p := ⟨gp, 1, none⟩) B1.out.lt).trans c1
  go_upto_region 5 with (refine wpList_append_sl w2 (by rfl) _ _ 22 (by rfl) w1.heap.size 5 i0 _ 1 1 Tryd.underlying22 hi hz0 hz1' hz2 rfl (by omega) v2 (1 + pl.length) ([.int .u8 (t.toNat : Int)] ++ bts pl) (by rfl) O2.out qa ql.length qc (bts ql) (by rfl) ((HQ.out.below (L1.out.trans (L3.out.mono L1.out.size))).more (Nat.le_trans L1.out.size L3.out.size)) bts_one (by unfold maxLen; omega) (by omega) L3.out.size ?_; intro v3 w3 ho_ hg_ hv_; have O3' := ho_; have L4 : Hid (Below w1.heap.size w1 w3) := Lib.hid (L3.out.grown hg_ L3.out.size (fun k hk => (own_cells O2.out hk).1)); clear ho_ hg_ hv_)
  have eal : [Value.int .u8 (t.toNat : Int)] ++ bts pl ++ bts ql = bts (t :: (pl ++ ql)) := by simp [bts]
  have ell : 1 + pl.length + ql.length = (t :: (pl ++ ql)).length := by simp; omega
  rw [eal, ell] at O3'
  obtain ⟨A3, c3, rfl, h31, h32, hs3⟩ := own_sl O3'
  obtain ⟨al, hal⟩ : ∃ al, t :: (pl ++ ql) = al := ⟨_, rfl⟩
  rw [hal] at h31 hs3 ⊢
  have hal5 : al.length ≤ 5000 := by rw [← hal]; simp; omega
  have HAL := Lib.hid hal
  have hal1 : 0 < al.length := by rw [← hal]; simp
  obtain ⟨b3, o3, rfl, _, _⟩ := hs3.2 hal1
  have HAC := Lib.hid (And.intro h31 h32)
  have S3 := Lib.hid hs3
  clear O3' hs3 O1 L2 O2 L3 d0 d1 eal ell hz0 hz1' hz2 hi hal
  have X3 : Hid (w3.rangeAt gh 0 (bts x)) := Lib.hid (rangeAt_below (C1.out.seg 0 [] (bts x) (bts y) rfl rfl) L4.out C1.out.lt)
  have Y3 : Hid (w3.rangeAt gh 32 (bts y)) := Lib.hid (rangeAt_below (C1.out.seg 32 (bts x) (bts y) [] (by simp) (by rw [bts_len, hx])) L4.out C1.out.lt)
  go_wp2_with (refine wpList_val (by rfl) (run_ldh _ (by with_reducible rfl) gh 0 (by rfl) x hx X3.out) ?_)
  with_reducible refine (text_any x hx w3).mono ?_
  rintro e w4 ⟨rfl, hb4⟩
  have Y4 : Hid (w4.rangeAt gh 32 (bts y)) := Lib.hid (rangeAt_below Y3.out hb4 (Nat.lt_of_lt_of_le C1.out.lt L4.out.size))
  go_wp2_with (refine wpList_val (by rfl) (run_ldh _ (by with_reducible rfl) gh 32 (by rfl) y hy Y4.out) ?_)
  with_reducible refine (text_any y hy w4).mono ?_
  rintro e w5 ⟨rfl, hb5⟩
  go_upto_region 7 with fail
  have L5 : Hid (Below w1.heap.size w1 w5) := Lib.hid (L4.out.trans ((hb4.trans (hb5.mono hb4.size)).mono L4.out.size))
  have S5 := Lib.hid ((S3.out.below (hb4.trans (hb5.mono hb4.size))).more (Nat.le_trans hb4.size hb5.size))
  clear X3 Y3 Y4 S3 L4 hb4 hb5
  have LW5 : Hid (Below w.heap.size w w5) := Lib.hid (L1.out.trans (L5.out.mono L1.out.size))
  go_wp2_with fail
  with_reducible refine (alive_any w5 (HR.out.below LW5.out h0) (Nat.lt_of_lt_of_le h0 LW5.out.size)).mono ?_
  rintro e w6 ⟨rfl, hb6⟩
  have L6 : Hid (Below w1.heap.size w1 w6) := Lib.hid (L5.out.trans (hb6.mono L5.out.size))
  have S6 := Lib.hid ((S5.out.below hb6).more hb6.size)
  have LW6 : Hid (Below w.heap.size w w6) := Lib.hid (L1.out.trans (L6.out.mono L1.out.size))
  clear hb6 L5 S5 LW5
  have f0 := (L6.out.cell (p := ⟨gp, 0, none⟩) B1.out.lt).trans c0
  have f1 := (L6.out.cell (p := ⟨gp, 1, none⟩) B1.out.lt).trans c1
  go_wp2_with fail
  have L7 : Hid (Below w6.heap.size w6 (w6.alloc (.cells #[.slice pa pl.length pc, .slice qa ql.length qc] 22))) := Lib.hid (by (first | assumption | (repeat (first | exact Below.refl _ _ | assumption | apply Below.drew | apply below_drewN | (refine Below.setCell ?_ (by (try simp) <;> omega) _) | (refine Below.alloc ?_ (by (try simp) <;> omega) _)))))
  have B7 := Bk.new w6 22 #[.slice pa pl.length pc, .slice qa ql.length qc]
  have z7 : w6.heap.size < (w6.alloc (.cells #[.slice pa pl.length pc, .slice qa ql.length qc] 22)).heap.size := by simp
  obtain ⟨w7, hw7⟩ : ∃ W, w6.alloc (.cells #[.slice pa pl.length pc, .slice qa ql.length qc] 22) = W := ⟨_, rfl⟩
  rw [hw7] at L7 B7 z7 ⊢
  clear hw7
  have LW7 : Hid (Below w.heap.size w w7) := Lib.hid (LW6.out.trans (L7.out.mono LW6.out.size))
  have S7 := Lib.hid ((S6.out.below L7.out).more L7.out.size)
  have PG : Part.good w7 (pa, pc, pl) := ⟨hp1, by unfold maxLen; omega, (HP.out.below LW7.out).more LW7.out.size⟩
  have QG : Part.good w7 (qa, qc, ql) := ⟨hq1, by unfold maxLen; omega, (HQ.out.below LW7.out).more LW7.out.size⟩
  have hSl7 : Sl w7 w7.heap.size 1 (some ⟨w6.heap.size, 0, none⟩) 2 ([((pa, pc, pl) : Part), (qa, qc, ql)].map slv) := ⟨rfl, fun _ => ⟨_, 0, rfl, z7, fun j u hu => by rw [Nat.zero_add, B7.cell, List.getElem?_toArray]; exact hu⟩⟩
  have hjn : Calls Tryd.prog 15 #[.int .u8 (t.toNat : Int), .slice (some ⟨w6.heap.size, 0, none⟩) 2 2] w7 _ := join_any t (some ⟨w6.heap.size, 0, none⟩) [(pa, pc, pl), (qa, qc, ql)] 2 w7 (HR.out.below LW7.out h0) (Nat.lt_of_lt_of_le h0 LW7.out.size) (by unfold maxLen; simp) hSl7 (fun r hr => by
    rcases List.mem_cons.1 hr with rfl | hr
    · exact PG
    · rcases List.mem_cons.1 hr with rfl | hr
      · exact QG
      · cases hr)
  have hj1 : joinF t [(pa, pc, pl), (qa, qc, ql)] = digF al := by rw [← HAL.out, joinF]; simp [catF]
  rw [hj1] at hjn
  with_reducible refine hjn.mono ?_
  rintro e w8 ⟨rfl, hb8⟩
  have LW8 : Hid (Below w.heap.size w w8) := Lib.hid (LW7.out.trans (hb8.mono LW7.out.size))
  have S8 := Lib.hid ((S7.out.below hb8).more hb8.size)
  have L8 : Hid (Below w1.heap.size w1 w8) := Lib.hid (L6.out.trans ((L7.out.trans (hb8.mono L7.out.size)).mono L6.out.size))
  have hda := digF_len al
  clear hb8 hjn hj1 hSl7 PG QG S7 LW7 B7 L7 z7 L6 S6 LW6
  go_wp2_with fail
  with_reducible refine (digest_any (some ⟨b3, o3, none⟩) al c3 w8 (HR.out.below LW8.out h0) (by unfold maxLen; omega) S8.out (Nat.lt_of_lt_of_le h0 LW8.out.size)).mono ?_
  rintro e w9 ⟨rfl, hb9⟩
  have LW9 : Hid (Below w.heap.size w w9) := Lib.hid (LW8.out.trans (hb9.mono LW8.out.size))
  have S9 := Lib.hid ((S8.out.below hb9).more hb9.size)
  have L9 : Hid (Below w1.heap.size w1 w9) := Lib.hid (L8.out.trans (hb9.mono L8.out.size))
  clear hb9 S8 L8 LW8
  have hc3 : (al.length : Int) ≤ (c3 : Int) := by have := HAC.out.1; omega
  have htx : (textF x).length = 64 := by rw [textF_len, hx]
  have hac := HAC.out
  unfold maxLen at hac
  by_cases hc1 : c3 = 1
  · have hal11 : al.length = 1 := by omega
    go_wp2_with (refine wpList_val (by rfl) (run_same _ _ _ (by with_reducible rfl) _ (by rfl) (by rfl) hda) ?_)
    have L10 : Hid (Below w9.heap.size w9 (w9.alloc (.cells #[.slice (some ⟨b3, o3, none⟩) 0 0] 22))) := Lib.hid (by (first | assumption | (repeat (first | exact Below.refl _ _ | assumption | apply Below.drew | apply below_drewN | (refine Below.setCell ?_ (by (try simp) <;> omega) _) | (refine Below.alloc ?_ (by (try simp) <;> omega) _)))))
    have B10 := Bk.new w9 22 #[.slice (some ⟨b3, o3, none⟩) 0 0]
    have z10 : w9.heap.size < (w9.alloc (.cells #[.slice (some ⟨b3, o3, none⟩) 0 0] 22)).heap.size := by simp
    obtain ⟨w10, hw10⟩ : ∃ W, w9.alloc (.cells #[.slice (some ⟨b3, o3, none⟩) 0 0] 22) = W := ⟨_, rfl⟩
    rw [hw10] at L10 B10 z10 ⊢
    clear hw10
    have LW10 : Hid (Below w.heap.size w w10) := Lib.hid (LW9.out.trans (L10.out.mono LW9.out.size))
    have S10 := Lib.hid ((S9.out.below L10.out).more L10.out.size)
    have TG : Part.good w10 (some ⟨b3, o3, none⟩, 0, al.tail) := ⟨by simp only [List.length_tail]; omega, by simp only; unfold maxLen; omega, ((Sl.nil _ _ _ _ : Sl w10 w10.heap.size 1 _ 0 []) |> fun h => by rw [show al.tail = [] from List.eq_nil_of_length_eq_zero (by rw [List.length_tail]; omega)]; exact h)⟩
    have hSl10 : Sl w10 w10.heap.size 1 (some ⟨w9.heap.size, 0, none⟩) 1 ([((some ⟨b3, o3, none⟩, 0, al.tail) : Part)].map slv) := ⟨rfl, fun _ => ⟨_, 0, rfl, z10, fun j u hu => by rw [Nat.zero_add, B10.cell, List.getElem?_toArray]; simpa [slv, hal11] using hu⟩⟩
    have hjn : Calls Tryd.prog 15 #[.int .u8 (t.toNat : Int), .slice (some ⟨w9.heap.size, 0, none⟩) 1 1] w10 _ := join_any t (some ⟨w9.heap.size, 0, none⟩) [(some ⟨b3, o3, none⟩, 0, al.tail)] 1 w10 (HR.out.below LW10.out h0) (Nat.lt_of_lt_of_le h0 LW10.out.size) (by unfold maxLen; simp) hSl10 (fun r hr => by
      rcases List.mem_cons.1 hr with rfl | hr
      · exact TG
      · cases hr)
    have hj1 : joinF t [(some ⟨b3, o3, none⟩, 0, al.tail)] = digF al := by rw [← HAL.out, joinF]; simp [catF]
    rw [hj1] at hjn
    with_reducible refine hjn.mono ?_
    rintro e w11 ⟨rfl, hb11⟩
    have LW11 : Hid (Below w.heap.size w w11) := Lib.hid (LW10.out.trans (hb11.mono LW10.out.size))
    have S11 := Lib.hid ((S10.out.below hb11).more hb11.size)
    have L11 : Hid (Below w1.heap.size w1 w11) := Lib.hid (L9.out.trans ((L10.out.trans (hb11.mono L10.out.size)).mono L9.out.size))
    clear hb11 hjn hj1 hSl10 TG S10 LW10 B10 L10 z10 L9 S9 LW9
    go_wp2_with fail
    have hd1 := digest_any (some ⟨b3, o3, none⟩) al c3 w11 (HR.out.below LW11.out h0) (by unfold maxLen; omega) S11.out (Nat.lt_of_lt_of_le h0 LW11.out.size)
    rw [hal11, hc1] at hd1
    with_reducible refine hd1.mono ?_
    rintro e w12 ⟨rfl, hb12⟩
    try clear hd1
    have LW12 : Hid (Below w.heap.size w w12) := Lib.hid (LW11.out.trans (hb12.mono LW11.out.size))
    have L12 : Hid (Below w1.heap.size w1 w12) := Lib.hid (L11.out.trans (hb12.mono L11.out.size))
    clear hb12 S11 L11 LW11
    have X12 : Hid (w12.rangeAt gh 0 (bts x)) := Lib.hid (rangeAt_below (C1.out.seg 0 [] (bts x) (bts y) rfl rfl) L12.out C1.out.lt)
    have Y12 : Hid (w12.rangeAt gh 32 (bts y)) := Lib.hid (rangeAt_below (C1.out.seg 32 (bts x) (bts y) [] (by simp) (by rw [bts_len, hx])) L12.out C1.out.lt)
    by_cases hxy : x = y
    · subst hxy
      go_wp2_with (first
        | (refine wpList_val (by rfl) (run_same _ _ _ (by with_reducible rfl) (digF al) (by rfl) (by rfl) hda) ?_)
        | (refine wpList_val (by rfl) (run_same _ _ _ (by with_reducible rfl) x (by rfl) (by rfl) hx) ?_)
        | (refine wpList_val (by rfl) (run_ldh _ (by with_reducible rfl) gh 0 (by rfl) x hx X12.out) ?_)
        | (refine wpList_val (by rfl) (run_ldh _ (by with_reducible rfl) gh 32 (by rfl) x hy Y12.out) ?_))
      go_ret
      exact ⟨rfl, LW12.out⟩
    · have hne1 : (x == y) = false := beq_eq_false_iff_ne.2 hxy
      have hne2 : (textF x == textF y) = false := beq_eq_false_iff_ne.2 (fun e => hxy (textF_inj e))
      have hne3 : ¬ textF x = textF y := fun e => hxy (textF_inj e)
      go_wp2_with (first
        | (refine wpList_val (by rfl) (run_same _ _ _ (by with_reducible rfl) (digF al) (by rfl) (by rfl) hda) ?_)
        | (refine wpList_val (by rfl) (run_diff _ _ _ (by with_reducible rfl) x y (by rfl) (by rfl) hx hy hne1) ?_)
        | (refine wpList_val (by rfl) (run_ldh _ (by with_reducible rfl) gh 0 (by rfl) x hx X12.out) ?_)
        | (refine wpList_val (by rfl) (run_ldh _ (by with_reducible rfl) gh 32 (by rfl) y hy Y12.out) ?_))
      go_ret
      exact ⟨rfl, LW12.out⟩
  · go_wp2_with (refine wpList_val (by rfl) (run_same _ _ _ (by with_reducible rfl) _ (by rfl) (by rfl) hda) ?_)
    have L10 : Hid (Below w9.heap.size w9 (w9.alloc (.cells #[.slice (some ⟨b3, o3 + 1, none⟩) (al.length - 1) (c3 - 1)] 22))) := Lib.hid (by (first | assumption | (repeat (first | exact Below.refl _ _ | assumption | apply Below.drew | apply below_drewN | (refine Below.setCell ?_ (by (try simp) <;> omega) _) | (refine Below.alloc ?_ (by (try simp) <;> omega) _)))))
    have B10 := Bk.new w9 22 #[.slice (some ⟨b3, o3 + 1, none⟩) (al.length - 1) (c3 - 1)]
    have z10 : w9.heap.size < (w9.alloc (.cells #[.slice (some ⟨b3, o3 + 1, none⟩) (al.length - 1) (c3 - 1)] 22)).heap.size := by simp
    obtain ⟨w10, hw10⟩ : ∃ W, w9.alloc (.cells #[.slice (some ⟨b3, o3 + 1, none⟩) (al.length - 1) (c3 - 1)] 22) = W := ⟨_, rfl⟩
    rw [hw10] at L10 B10 z10 ⊢
    clear hw10
    have LW10 : Hid (Below w.heap.size w w10) := Lib.hid (LW9.out.trans (L10.out.mono LW9.out.size))
    have S10 := Lib.hid ((S9.out.below L10.out).more L10.out.size)
    have TG : Part.good w10 (some ⟨b3, o3 + 1, none⟩, c3 - 1, al.tail) := ⟨by simp only [List.length_tail]; omega, by simp only; unfold maxLen; omega, ⟨by simp [bts_len], fun hn => by obtain ⟨b', off', e', hb', hc'⟩ := S10.out.2 hal1; injection e' with e'; injection e' with e1' e2' _; subst e1'; subst e2'; exact ⟨b3, o3 + 1, rfl, hb', fun j u hu => by rw [Nat.add_assoc]; exact hc' (1 + j) u (by rw [Nat.add_comm 1 j]; rw [← hu]; simp [bts, List.getElem?_tail])⟩⟩⟩
    have hSl10 : Sl w10 w10.heap.size 1 (some ⟨w9.heap.size, 0, none⟩) 1 ([((some ⟨b3, o3 + 1, none⟩, c3 - 1, al.tail) : Part)].map slv) := ⟨rfl, fun _ => ⟨_, 0, rfl, z10, fun j u hu => by rw [Nat.zero_add, B10.cell, List.getElem?_toArray]; simpa [slv] using hu⟩⟩
    have hjn : Calls Tryd.prog 15 #[.int .u8 (t.toNat : Int), .slice (some ⟨w9.heap.size, 0, none⟩) 1 1] w10 _ := join_any t (some ⟨w9.heap.size, 0, none⟩) [(some ⟨b3, o3 + 1, none⟩, c3 - 1, al.tail)] 1 w10 (HR.out.below LW10.out h0) (Nat.lt_of_lt_of_le h0 LW10.out.size) (by unfold maxLen; simp) hSl10 (fun r hr => by
      rcases List.mem_cons.1 hr with rfl | hr
      · exact TG
      · cases hr)
    have hj1 : joinF t [(some ⟨b3, o3 + 1, none⟩, c3 - 1, al.tail)] = digF al := by rw [← HAL.out, joinF]; simp [catF]
    rw [hj1] at hjn
    with_reducible refine hjn.mono ?_
    rintro e w11 ⟨rfl, hb11⟩
    have LW11 : Hid (Below w.heap.size w w11) := Lib.hid (LW10.out.trans (hb11.mono LW10.out.size))
    have S11 := Lib.hid ((S10.out.below hb11).more hb11.size)
    have L11 : Hid (Below w1.heap.size w1 w11) := Lib.hid (L9.out.trans ((L10.out.trans (hb11.mono L10.out.size)).mono L9.out.size))
    clear hb11 hjn hj1 hSl10 TG S10 LW10 B10 L10 z10 L9 S9 LW9
    go_wp2_with fail
    with_reducible refine (digest_any (some ⟨b3, o3, none⟩) al c3 w11 (HR.out.below LW11.out h0) (by unfold maxLen; omega) S11.out (Nat.lt_of_lt_of_le h0 LW11.out.size)).mono ?_
    rintro e w12 ⟨rfl, hb12⟩
    have LW12 : Hid (Below w.heap.size w w12) := Lib.hid (LW11.out.trans (hb12.mono LW11.out.size))
    have L12 : Hid (Below w1.heap.size w1 w12) := Lib.hid (L11.out.trans (hb12.mono L11.out.size))
    clear hb12 S11 L11 LW11
    have X12 : Hid (w12.rangeAt gh 0 (bts x)) := Lib.hid (rangeAt_below (C1.out.seg 0 [] (bts x) (bts y) rfl rfl) L12.out C1.out.lt)
    have Y12 : Hid (w12.rangeAt gh 32 (bts y)) := Lib.hid (rangeAt_below (C1.out.seg 32 (bts x) (bts y) [] (by simp) (by rw [bts_len, hx])) L12.out C1.out.lt)
    by_cases hxy : x = y
    · subst hxy
      go_wp2_with (first
        | (refine wpList_val (by rfl) (run_same _ _ _ (by with_reducible rfl) (digF al) (by rfl) (by rfl) hda) ?_)
        | (refine wpList_val (by rfl) (run_same _ _ _ (by with_reducible rfl) x (by rfl) (by rfl) hx) ?_)
        | (refine wpList_val (by rfl) (run_ldh _ (by with_reducible rfl) gh 0 (by rfl) x hx X12.out) ?_)
        | (refine wpList_val (by rfl) (run_ldh _ (by with_reducible rfl) gh 32 (by rfl) x hy Y12.out) ?_))
      go_ret
      exact ⟨rfl, LW12.out⟩
    · have hne1 : (x == y) = false := beq_eq_false_iff_ne.2 hxy
      have hne2 : (textF x == textF y) = false := beq_eq_false_iff_ne.2 (fun e => hxy (textF_inj e))
      have hne3 : ¬ textF x = textF y := fun e => hxy (textF_inj e)
      go_wp2_with (first
        | (refine wpList_val (by rfl) (run_same _ _ _ (by with_reducible rfl) (digF al) (by rfl) (by rfl) hda) ?_)
        | (refine wpList_val (by rfl) (run_diff _ _ _ (by with_reducible rfl) x y (by rfl) (by rfl) hx hy hne1) ?_)
        | (refine wpList_val (by rfl) (run_ldh _ (by with_reducible rfl) gh 0 (by rfl) x hx X12.out) ?_)
        | (refine wpList_val (by rfl) (run_ldh _ (by with_reducible rfl) gh 32 (by rfl) y hy Y12.out) ?_))
      go_ret
      exact ⟨rfl, LW12.out⟩
theorem tags_walk (t : UInt8) (p q : Part) {w : World} (hp : p.good w) (hq : q.good w) (x y : List UInt8) (hx : x.length = 32) (hy : y.length = 32) (_ : World) (hr : Roots w ∧ 0 < w.heap.size) :
    Calls Tryd.prog 7 #[.int .u8 (t.toNat : Int), .agg #[slv p, slv q], .agg (bts x ++ bts y).toArray] w fun e w' => e = .returned (.bool true) ∧ Below w.heap.size w w' := tags_any t p q x y w hr.1 hr.2 hp hq hx hy
end Go.Proofs.YtmiifbamflkiaaaDoor

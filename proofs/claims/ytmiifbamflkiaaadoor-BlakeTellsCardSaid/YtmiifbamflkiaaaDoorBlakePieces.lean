/- What this text proves: the contract of the law BlakePieces. The conditions are how the argument lies in memory, and that the package's table is as its text lays it. -/
import Derived.Test.YtmiifbamflkiaaaDoorBlakeLaw
import Derived.Laws.OwnMore
namespace Go.Proofs.YtmiifbamflkiaaaDoor
open Go.RowKit
set_option linter.unusedVariables false
set_option linter.unusedSimpArgs false

/-- A slice of bytes as a value: its address, its room, its bytes. -/
abbrev Part := Option Addr × Nat × List UInt8
def slv (p : Part) : Value := .slice p.1 p.2.2.length p.2.1
def Part.good (w : World) (p : Part) : Prop := p.2.2.length ≤ p.2.1 ∧ p.2.1 ≤ maxLen ∧ Sl w w.heap.size 1 p.1 p.2.2.length (bts p.2.2)

theorem own_mv {W W' : World} {base n g : Nat} {e : TypeId} {v : Value} {xs : List Value} (ho : W.ownsRow base e 1 v n xs) (hm : Moves (fun k _ => k = g) W W') (hne : some g ≠ v.ownBlock) : W'.ownsRow base e 1 v n xs := by
  refine ⟨ho.1, ?_⟩
  rcases ho.2 with hn | ⟨g', cap, cur, rfl, hb, hg, rest⟩
  · exact .inl hn
  · exact .inr ⟨g', cap, cur, rfl, hb, hm.block g' _ hg (fun e => hne (by simp [Value.ownBlock, e])), rest⟩
theorem own_bl {W W' : World} {base n : Nat} {e : TypeId} {v : Value} {xs : List Value} (ho : W.ownsRow base e 1 v n xs) (hb : Below W.heap.size W W') : W'.ownsRow base e 1 v n xs :=
  own_mv (g := W.heap.size) ho (Moves.below _ hb (Nat.le_refl _)) (fun e => by have := (own_cells ho e.symm).2.1; omega)
theorem own_src {W : World} {base n gs : Nat} {A : Option Addr} {c : Nat} {l : List UInt8} {cs : Array Value} (ho : W.ownsRow base 5 1 (.slice A n c) n (bts l)) (hg : Bk W gs 50 cs) : Src W gs A l := fun hl => by
  have hn : n = l.length := by have := ho.1; rw [bts_len] at this; omega
  rcases ho.2 with ⟨h, h'⟩ | ⟨g, cap, cur, h, hb, hh, hnc, hcm, hcs, ht⟩
  · omega
  · injection h with h1 _ h3
    subst h1
    subst h3
    refine ⟨g, 0, rfl, fun e => ?_, fun j u hu => ?_⟩
    · subst e; exact Bk.ne_ (t := 5) hh hg (by decide) rfl
    · have := ho.cellAt j (by have := (List.getElem?_eq_some_iff.1 hu).1; rw [bts_len] at this; omega)
      rw [Nat.zero_add, this, hu]
theorem DgAt.grown {w W W' : World} {gs : Nat} {l : List UInt8} {row : Option Nat} (h : DgAt w gs l W) (hg : W.grownBy W' row) (hne : some gs ≠ row) (hr : ∀ k, row = some k → w.heap.size ≤ k) : DgAt w gs l W' :=
  ⟨h.s.grown hg hne, h.b.grown hg h.b.size hr, h.ge⟩
theorem kept_ne {u v : Value} (h : ∀ x, u.ownBlock = some x → v.ownBlock ≠ some x) : v.ownBlock = none ∨ v.ownBlock ≠ u.ownBlock := by
  cases hv : v.ownBlock with
  | none => exact .inl rfl
  | some y => exact .inr fun e => h y e.symm hv
theorem own_sl_at {w : World} {base n c : Nat} {e : TypeId} {A : Option Addr} {xs : List Value} (h : w.ownsRow base e 1 (.slice A n c) n xs) : Sl w w.heap.size 1 A n xs := by
  obtain ⟨A', c', e, _, _, hs⟩ := own_sl h
  injection e with e1 e2 e3
  subst e1
  exact hs
theorem xor255 (y : UInt8) : bits .xor .u8 (y.toNat : Int) 255 = ((UInt8.ofNat (255 - y.toNat)).toNat : Int) := by
  have : ∀ c : Fin 256, bits .xor .u8 (c.val : Int) 255 = ((UInt8.ofNat (255 - c.val)).toNat : Int) := by decide +kernel
  exact this ⟨y.toNat, y.toNat_lt⟩
theorem run_nsame {o : Oper} {a : Act} {w : World} (x y : Operand) (ty : TypeId) (ho : o.op = .binOp .neq 25 x y ty) (p : List UInt8) (hx : a.eval x = .agg (bts p).toArray) (hy : a.eval y = .agg (bts p).toArray) (hp : p.length = 32) :
    (execOp a.eval o).run Tryd.prog w = .ok (.value (.bool false)) w := by
  have h := run_bytes_neq (P := Tryd.prog) (w := w) 25 5 ty x y ho 32 Tryd.underlying25 Tryd.underlying5 hs_u8' hm_hash p p hx hy hp hp
  rwa [show (!(p == p)) = false from by simp] at h

attribute [local irreducible] digF
set_option maxRecDepth 100000 in
set_option maxHeartbeats 4000000 in
theorem pieces_any (A : Option Addr) (l : List Part) (c : Nat) (w : World) (hr : Roots w) (h0 : 0 < w.heap.size) (hA : Sl w w.heap.size 1 A l.length (l.map slv)) (hg : ∀ p ∈ l, p.good w) :
    Calls Tryd.prog 4 #[.slice A l.length c] w fun e w' => e = .returned (.bool true) ∧ Below w.heap.size w w' := by
  have HR := Lib.hid hr
  have HA := Lib.hid hA
  have HG := Lib.hid hg
  obtain ⟨i0, hi, hz0, hz1, hz2⟩ := info_parts u8_info
  clear hr hA hg
  go_enter Tryd.func4, Tryd.ntmps4
  go_wp2_with fail
  with_reducible refine (dg_new HR.out h0 (Below.refl _ _)).mono ?_
  rintro e w1 ⟨gs, rfl, hs0, hs1, hb1⟩
  go_wp2_with fail
  with_reducible refine (alive_any w1 (HR.out.below hs1.b h0) (Nat.lt_of_lt_of_le h0 hs1.b.size)).mono ?_
  rintro e w2 ⟨rfl, hb2⟩
  have S2 := Lib.hid (hs1.below hb2)
  clear hb2 hs1 hs0 hb1
  go_wp2_with fail
  go_loopw [4, 5] (fun v i wr => ∃ (k : Nat) (acc : List UInt8), k ≤ 40 ∧ acc.length ≤ 5000 ∧ i = .int .i64 k ∧ DgAt w gs acc wr ∧ wr.ownsRow w.heap.size 5 1 v acc.length (bts acc)) (fun _ i _ => 40 - (intOf i).toNat)
  case atStart => exact ⟨0, [], by omega, by simp, rfl, S2.out, World.ownsRow_nil _ _ _ _⟩
  case round =>
    obtain ⟨k, acc, hk, hacc, rfl, hd, ho⟩ := hrel
    have D := Lib.hid hd
    have O := Lib.hid ho
    clear hd ho
    obtain ⟨Av, cv, rfl, hv1, hv2, hvs⟩ := own_sl O.out
    have VS := Lib.hid hvs
    clear hvs
    have hda := digF_len acc
    by_cases hlt : k < l.length
    · have e1 : decide ((k : Int) < (l.length : Int)) = true := decide_eq_true (by omega)
      by_cases h40 : k < 40
      · have e2 : decide ((k : Int) < 40) = true := decide_eq_true (by omega)
        obtain ⟨p, hp⟩ : ∃ p, l[k]? = some p := ⟨_, List.getElem?_eq_getElem hlt⟩
        obtain ⟨hp1, hp2, hps⟩ := HG.out p (List.mem_of_getElem? hp)
        obtain ⟨b, off, rfl, hbl, hcc⟩ := HA.out.2 (by omega)
        have hcell := (D.out.b.cell (p := ⟨b, off + k, none⟩) hbl).trans (hcc k (slv p) (by rw [List.getElem?_map, hp]; rfl))
        obtain ⟨pa, pc, pl⟩ := p
        simp only [slv] at hcell hp1 hp2 hps
        have PS := Lib.hid hps
        clear hcc hps hp
        by_cases hbig : (5000 : Int) - (acc.length : Int) < (pl.length : Int)
        · have e3 : decide ((5000 : Int) - (acc.length : Int) < (pl.length : Int)) = true := decide_eq_true hbig
          go_wp2_with fail
          go_ret
          exact ⟨rfl, D.out.b⟩
        have e3 : decide ((5000 : Int) - (acc.length : Int) < (pl.length : Int)) = false := decide_eq_false hbig
        go_upto_region 10 with fail
        have O10 := Lib.hid (World.ownsRow_made (base := wr.heap.size) (e := 5) (size := 1) wr #[] 0 (Nat.le_refl _) (by unfold maxLen; omega) (by simp))
        have L10 : Hid (Below wr.heap.size wr (wr.alloc (.cells #[] 5))) := Lib.hid (by (first | assumption | (repeat (first | exact Below.refl _ _ | assumption | apply Below.drew | apply below_drewN | (refine Below.setCell ?_ (by (try simp) <;> omega) _) | (refine Below.alloc ?_ (by (try simp) <;> omega) _)))))
        have hcell2 := (L10.out.cell (p := ⟨b, off + k, none⟩) (World.block_lt_of_cell? wr _ hcell)).trans hcell
        have hm1 : pl.length ≤ 5000 := by omega
        go_upto_region 11 with (refine wpList_append_sl (wr.alloc (.cells #[] 5)) (by rfl) _ _ 22 (by rfl) wr.heap.size 5 i0 _ 1 1 Tryd.underlying22 hi hz0 hz1 hz2 rfl (by omega) (.slice (some ⟨wr.heap.size, 0, none⟩) 0 0) 0 [] (by rfl) O10.out pa pl.length pc (bts pl) (by rfl) ((PS.out.below (D.out.b.trans (L10.out.mono D.out.b.size))).more (Nat.le_trans D.out.b.size L10.out.size)) bts_one (by unfold maxLen; omega) (by omega) (by simp) ?_; intro v10 w10 ho_ hg_ hv_; have P10 := Lib.hid ho_; have L11 : Hid (Below wr.heap.size wr w10) := Lib.hid (L10.out.grown hg_ (by simp) (fun k hk => (own_cells O10.out hk).1)); clear ho_ hg_ hv_)
        have D10 := Lib.hid (D.out.below L11.out)
        have Q10 := Lib.hid (own_bl O.out L11.out)
        have hvne : ∀ x, (Value.slice Av acc.length cv).ownBlock = some x → v10.ownBlock ≠ some x := fun x hx hy => by
          have h1 := (own_cells O.out hx).2.1
          have h2 := (own_cells P10.out hy).1
          omega
        have HVN := Lib.hid hvne
        have hwB : w.heap.size ≤ wr.heap.size := D.out.b.size
        clear hvne O10 L10 L11 D O hcell hcell2 VS
        have P10' := P10.out
        rw [Nat.zero_add, List.nil_append] at P10'
        obtain ⟨Ao, co, rfl, hc1, hc2, hos⟩ := own_sl P10'
        have PO := Lib.hid P10'
        clear P10' P10 hos
        go_upto_region 12 with fail
        with_reducible refine (dg_write HR.out h0 D10.out Ao co (by unfold maxLen; omega) (own_src PO.out D10.out.s)).mono ?_
        rintro e w11 ⟨rfl, hd11, hm11⟩
        have D11 := Lib.hid hd11
        have PO11 := Lib.hid (own_mv PO.out hm11 (own_ne PO.out D10.out.s (by decide)))
        have Q11 := Lib.hid (own_mv Q10.out hm11 (own_ne Q10.out D10.out.s (by decide)))
        clear hd11 hm11 D10 PO Q10
        go_upto_region 14 with (refine wpList_append_sl w11 (by rfl) _ _ 22 (by rfl) w.heap.size 5 i0 _ 1 1 Tryd.underlying22 hi hz0 hz1 hz2 rfl (by omega) (.slice Av acc.length cv) acc.length (bts acc) (by rfl) Q11.out Ao pl.length co (bts pl) (by rfl) (own_sl_at PO11.out) bts_one (by unfold maxLen; omega) (by omega) D11.out.b.size ?_; intro v12 w12 ho_ hg_ hv_; have Q12' := ho_; have D12 := Lib.hid (D11.out.grown hg_ (own_ne Q11.out D11.out.s (by decide)) (fun k hk => (own_cells Q11.out hk).1)); have PO12 := Lib.hid (PO11.out.kept hg_ (kept_ne HVN.out)); have HV := Lib.hid hv_; clear ho_ hg_ hv_)
        rw [← bts_app, ← List.length_append] at Q12'
        have hv2 : ∀ x, v12.ownBlock = some x → (Value.slice Ao pl.length co).ownBlock ≠ some x := fun x hx hy => by
          rcases HV.out with h | h
          · exact HVN.out x (h.symm.trans hx) hy
          · have h1 := (own_cells PO11.out hy).2.1
            have h2 := Option.some.inj (h.symm.trans hx)
            omega
        have hal5 : (acc ++ pl).length ≤ 5000 := by rw [List.length_append]; omega
        have Q12 := Lib.hid Q12'
        have HV2 := Lib.hid hv2
        clear Q12' hv2 HV HVN PO11 Q11 D11 PS
        obtain ⟨al, hal⟩ : ∃ x, acc ++ pl = x := ⟨_, rfl⟩
        rw [hal] at D12 Q12 hal5
        have hdal := digF_len al
        clear hal e3
        obtain ⟨B0, hB0⟩ : ∃ x, wr.heap.size = x := ⟨_, rfl⟩
        rw [hB0] at hwB PO12 ⊢
        clear hB0
        go_loopw [7] (fun i wz => ∃ (j : Nat) (ys : List UInt8), j ≤ pl.length ∧ ys.length = pl.length ∧ i = .int .i64 j ∧ wz.ownsRow B0 5 1 (.slice Ao pl.length co) pl.length (bts ys) ∧ DgAt w gs al wz ∧ wz.ownsRow w.heap.size 5 1 v12 al.length (bts al)) (fun i _ => pl.length - (intOf i).toNat)
        case atStart => exact ⟨0, pl, by omega, rfl, rfl, PO12.out, D12.out, Q12.out⟩
        case round =>
          obtain ⟨j, ys, hj, hys, rfl, ho1, hd1, hq1⟩ := hrel
          have D1 := Lib.hid hd1
          have Q1 := Lib.hid hq1
          clear hd1 hq1 D12 Q12 PO12
          by_cases hjl : j < pl.length
          · have e4 : decide ((j : Int) < (pl.length : Int)) = true := decide_eq_true (by omega)
            obtain ⟨g, rfl⟩ : ∃ g, Ao = some ⟨g, 0, none⟩ := by
              rcases ho1.2 with ⟨h, _⟩ | ⟨g, cap, cur, h, _⟩
              · injection h; omega
              · injection h with h1; exact ⟨g, h1⟩
            obtain ⟨y, hy⟩ : ∃ y, ys[j]? = some y := ⟨_, List.getElem?_eq_getElem (by omega)⟩
            have hyc := (ho1.cellAt j (by omega)).trans (bts_at hy)
            have hyf := ho1.frozenAt j
            have hst := (ho1.stored j (.int .u8 ((UInt8.ofNat (255 - y.toNat)).toNat : Int))).1
            rw [bts_set] at hst
            have hgb := (own_cells ho1 (g := g) rfl).1
            have hxor := xor255 y
            have hwr := D1.out.ge
            have HG1 := Lib.hid hgb
            have O1 := Lib.hid hst
            have hms : Moves (fun k _ => k = g) wr (wr.setCell ⟨g, j, none⟩ (.int .u8 ((UInt8.ofNat (255 - y.toNat)).toNat : Int))) := Moves.setCell _ _ _ (fun _ _ => rfl)
            have D2 := Lib.hid (D1.out.moves hms (fun e => by have := own_ne ho1 D1.out.s (by decide); simp [Value.ownBlock, e] at this) (by omega))
            have Q2 := Lib.hid (own_mv Q1.out hms (fun e => HV2.out g e.symm rfl))
            clear hst hms ho1 hgb D1 Q1
            go_wp2_with fail
            go_roundw
            case rel => exact ⟨j + 1, _, by omega, by simp [hys], by go_num, O1.out, D2.out, Q2.out⟩
            case measure => simp [intOf]; omega
          · have e4 : decide ((j : Int) < (pl.length : Int)) = false := decide_eq_false (by omega)
            clear ho1
            obtain ⟨A9, c9, rfl, _, _, hs9⟩ := own_sl Q1.out
            have VS9 := Lib.hid hs9
            clear hs9
            go_wp2_with fail
            with_reducible refine (dg_sum HR.out h0 D1.out).mono ?_
            rintro e w20 ⟨rfl, hb20⟩
            have D20 := Lib.hid (D1.out.below hb20)
            have VS20 := Lib.hid ((VS9.out.below hb20).more hb20.size)
            have Q20 := Lib.hid (own_bl Q1.out hb20)
            clear hb20 D1 Q1
            go_wp2_with fail
            with_reducible refine (digest_any A9 al c9 w20 (HR.out.below D20.out.b h0) (by unfold maxLen; omega) VS20.out (Nat.lt_of_lt_of_le h0 D20.out.b.size)).mono ?_
            rintro e w21 ⟨rfl, hb21⟩
            have D21 := Lib.hid (D20.out.below hb21)
            have Q21 := Lib.hid (own_bl Q20.out hb21)
            clear hb21 D20 VS20 Q20
            go_wp2_with (refine wpList_val (by rfl) (run_nsame _ _ _ (by with_reducible rfl) _ (by rfl) (by rfl) hdal) ?_)
            go_roundw
            case rel => exact ⟨k + 1, al, by omega, hal5, by go_num, D21.out, Q21.out⟩
            case measure => simp [intOf]; omega
      · have e2 : decide ((k : Int) < 40) = false := decide_eq_false (by omega)
        go_wp2_with fail
        with_reducible refine (dg_sum HR.out h0 D.out).mono ?_
        rintro e w20 ⟨rfl, hb20⟩
        have D20 := Lib.hid (D.out.below hb20)
        have VS20 := Lib.hid ((VS.out.below hb20).more hb20.size)
        clear hb20
        go_wp2_with fail
        with_reducible refine (digest_any Av acc cv w20 (HR.out.below D20.out.b h0) (by unfold maxLen; omega) VS20.out (Nat.lt_of_lt_of_le h0 D20.out.b.size)).mono ?_
        rintro e w21 ⟨rfl, hb21⟩
        have D21 := Lib.hid (D20.out.below hb21)
        clear hb21
        go_wp2_with (refine wpList_val (by rfl) (run_same _ _ _ (by with_reducible rfl) _ (by rfl) (by rfl) hda) ?_)
        go_ret
        exact ⟨rfl, D21.out.b⟩
    · have e1 : decide ((k : Int) < (l.length : Int)) = false := decide_eq_false (by omega)
      go_wp2_with fail
      with_reducible refine (dg_sum HR.out h0 D.out).mono ?_
      rintro e w20 ⟨rfl, hb20⟩
      have D20 := Lib.hid (D.out.below hb20)
      have VS20 := Lib.hid ((VS.out.below hb20).more hb20.size)
      clear hb20
      go_wp2_with fail
      with_reducible refine (digest_any Av acc cv w20 (HR.out.below D20.out.b h0) (by unfold maxLen; omega) VS20.out (Nat.lt_of_lt_of_le h0 D20.out.b.size)).mono ?_
      rintro e w21 ⟨rfl, hb21⟩
      have D21 := Lib.hid (D20.out.below hb21)
      clear hb21
      go_wp2_with (refine wpList_val (by rfl) (run_same _ _ _ (by with_reducible rfl) _ (by rfl) (by rfl) hda) ?_)
      go_ret
      exact ⟨rfl, D21.out.b⟩
theorem pieces_walk (A : Option Addr) (l : List Part) (c : Nat) (_ : l.length ≤ c) (_ : c ≤ maxLen) {w : World} (hA : Sl w w.heap.size 1 A l.length (l.map slv)) (hg : ∀ p ∈ l, p.good w) (_ : World) (hr : Roots w ∧ 0 < w.heap.size) :
    Calls Tryd.prog 4 #[.slice A l.length c] w fun e w' => e = .returned (.bool true) ∧ Below w.heap.size w w' := pieces_any A l c w hr.1 hr.2 hA hg
end Go.Proofs.YtmiifbamflkiaaaDoor

/- What this text proves: where two unlike texts have one digest, the reference's Clash says so. The conditions: how the texts lie in memory, and that they are neither too many nor too long. -/
import Derived.Test.YtdeikpifflkabaaDoorMerTextsR
import Derived.Test.YtdeikpifflkabaaDoorQuiet
import Derived.Test.YtdeikpifflkabaaDoorBlakeDg
namespace Go.Proofs.YtdeikpifflkabaaDoor
open Go.RowKit Go.Shelf
set_option linter.unusedVariables false
set_option linter.unusedSimpArgs false

theorem rd_bytes {W : World} {v : Value} {bs : List UInt8} (h : Rd 5 W v (bts bs)) : ∃ A c, v = .slice A bs.length c ∧ bs.length ≤ c ∧ c ≤ maxLen ∧ Sl W W.heap.size 1 A bs.length (bts bs) := by
  obtain ⟨A, c, e, h1, h2, h3⟩ := h.sl
  rw [bts_len] at e h1 h3
  exact ⟨A, c, e, h1, h2, h3⟩
theorem run_cs {o : Oper} {a : Act} {w : World} {A : Option Addr} {bs : List UInt8} {c : Nat} (x : Operand) (ho : o.op = .convert 59 9 x) (hx : a.eval x = .slice A bs.length c) (h : Sl w w.heap.size 1 A bs.length (bts bs)) : (execOp a.eval o).run Tryd.prog w = .ok (.value (.string (strOf bs))) w := by
  have hc := run_conv (P := Tryd.prog) (dst := 9) Tryd.underlying59 Tryd.underlying5 Tryd.underlying9 c h
  unfold execOp
  simp only [ho, hx, Sem.run_bind, hc, Result.andThen_ok, Sem.run_pure]
theorem hcells_step {L : List (List UInt8)} {k : Nat} {b : List UInt8} (h : L[k]? = some b) : hCells ((L.take k).map digF) ++ bts (digF b) = hCells ((L.take (k + 1)).map digF) := by
  rw [take_at h, List.map_append, hCells, hCells, List.flatMap_append]
  simp
theorem digs_32 (L : List (List UInt8)) : h32 (L.map digF) := fun a ha => by
  obtain ⟨e, _, rfl⟩ := List.mem_map.1 ha
  exact digF_len e
theorem run_neh {o : Oper} {a : Act} {w : World} (x y : Operand) (ty : TypeId) (ho : o.op = .binOp .eql 26 x y ty) (p q : List UInt8) (hx : a.eval x = .agg (bts p).toArray) (hy : a.eval y = .agg (bts q).toArray) (hp : p.length = 32) (hq : q.length = 32) (hne : p ≠ q) :
    (execOp a.eval o).run Tryd.prog w = .ok (.value (.bool false)) w := by
  have h := run_eqh (w := w) x y ty ho p q hx hy hp hq
  rwa [beq_eq_false_iff_ne.2 hne] at h
theorem bw_all {w0 w W : World} (hb : Below w0.heap.size w0 w) (hW : ∃ x : BW w, W = x.val) : Below w0.heap.size w0 W := by
  obtain ⟨x, rfl⟩ := hW
  exact hb.trans (x.below.mono hb.size)
/-- No clash among the first k with the i-th. -/
def NoC (L : List (List UInt8)) (i k : Nat) : Prop := ∀ (j : Nat) (a b : List UInt8), j < k → L[j]? = some a → L[i]? = some b → digF a = digF b → a = b
theorem noC_all {L : List (List UInt8)} (h : ∀ i, i < L.length → NoC L i i) : ¬ Clashes L := by
  rintro ⟨a, ha, b, hb, he, hne⟩
  obtain ⟨i, hi, rfl⟩ := List.getElem_of_mem ha
  obtain ⟨j, hj, rfl⟩ := List.getElem_of_mem hb
  rcases Nat.lt_trichotomy i j with h1 | h1 | h1
  · exact hne (h j hj i _ _ h1 (List.getElem?_eq_getElem hi) (List.getElem?_eq_getElem hj) he)
  · subst h1; exact hne rfl
  · exact hne (h i hi j _ _ h1 (List.getElem?_eq_getElem hj) (List.getElem?_eq_getElem hi) he.symm).symm

attribute [local irreducible] digF
set_option maxRecDepth 100000 in
set_option maxHeartbeats 8000000 in
theorem clash_any (A : Option Addr) (L : List (List UInt8)) (vs : List Value) (c : Nat) (w : World) (hn : L.length ≤ 1000) (hb1 : ∀ b ∈ L, b.length ≤ 100000) (hA : Sl w w.heap.size 1 A L.length vs)
    (hR : ∀ (i : Nat) x, vs[i]? = some x → ∃ bs, L[i]? = some bs ∧ Rd 5 w x (bts bs)) (hcl : Clashes L) :
    Calls Tryd.prog 13 #[.slice A L.length c] w fun e w' => e = .returned (.bool true) ∧ Below w.heap.size w w' := by
  have hzh := zero_hash
  obtain ⟨i0, hi, hz0, hz1, hz2⟩ := info_parts hash_info
  have h0l : (bts hash0).length = 32 := by rw [bts_len, hash0_len]
  have hvl : vs.length = L.length := by have := hA.1; omega
  have HCL := Lib.hid hcl
  have HA := Lib.hid hA
  have HB1 := Lib.hid hb1
  -- element i, in any later world
  have HE : Hid (∀ i, i < L.length → ∃ b off Ai ci bs, A = some ⟨b, off, none⟩ ∧ b < w.heap.size ∧ L[i]? = some bs ∧ bs.length ≤ ci ∧ bs.length ≤ 100000 ∧ (∀ W, Below w.heap.size w W → W.cell? ⟨b, off + i, none⟩ = some (.slice Ai bs.length ci) ∧ Sl W W.heap.size 1 Ai bs.length (bts bs))) := Lib.hid (fun i hi => by
    obtain ⟨b, off, u, rfl, hb, hc, hu⟩ := hA.one hi
    obtain ⟨bs, e, hr⟩ := hR i u hu
    obtain ⟨Ai, ci, rfl, q1, q2, q3⟩ := rd_bytes hr
    exact ⟨b, off, Ai, ci, bs, rfl, hb, e, q1, hb1 _ (List.mem_of_getElem? e), fun W hW => ⟨(hW.cell (p := ⟨b, off + i, none⟩) hb).trans hc, (q3.below hW).more hW.size⟩⟩)
  clear hA hR hcl hb1 hvl
  go_enter Tryd.func13, Tryd.ntmps13
  go_wp2_with fail
  go_loopw [3, 4] (fun v i wr => ∃ (k : Nat), k ≤ L.length ∧ i = .int .i64 k ∧ wr.ownsRow w.heap.size 26 32 v k (hCells ((L.take k).map digF)) ∧ (∀ i, i < k → NoC L i i) ∧ Below w.heap.size w wr) (fun _ i _ => L.length - (intOf i).toNat)
  case atStart => exact ⟨0, by omega, rfl, ⟨rfl, .inl ⟨rfl, rfl⟩⟩, fun i hi => by omega, Below.refl _ _⟩
  case round =>
    obtain ⟨k, hk, rfl, ho, hno, hbel⟩ := hrel
    have hz := hbel.size
    have HO := Lib.hid ho
    have HN := Lib.hid hno
    have HB := Lib.hid hbel
    clear ho hbel hno
    by_cases hlt : k < L.length
    · have hlt' : (k : Int) < (L.length : Int) := by omega
      obtain ⟨b, off, Ai, ci, bi, rfl, hb, hLi, hci, hbl5, hW⟩ := HE.out k hlt
      obtain ⟨hcell, hsl⟩ := hW wr HB.out
      have HW := Lib.hid hW
      have HT := Lib.hid (hcells_step hLi)
      have HLi := Lib.hid hLi
      have HC := Lib.hid (rsum_any Ai bi ci wr (by omega) hci hsl)
      obtain ⟨J, hJ⟩ : ∃ J, digF bi = J := ⟨_, rfl⟩
      have hJl : (bts J).length = 32 := by rw [bts_len, ← hJ, digF_len]
      rw [hJ] at HT HC
      have HJ := Lib.hid hJ
      clear hW hsl hLi hJ hci hbl5
      go_wp2_with fail
      with_reducible refine HC.out.mono ?_
      rintro e w3 ⟨rfl, hb3⟩
      have L3 := Lib.hid (HB.out.trans (hb3.mono HB.out.size))
      have O3 := Lib.hid (own_below HO.out hb3)
      clear HC hb3 hcell HO
      have K4 := Lib.hid (Bk.new w3 26 (bts J).toArray)
      have L4 : Hid (Below w.heap.size w (w3.alloc (.cells (bts J).toArray 26))) := Lib.hid (by have hbel := L3.out; have hz3 := hbel.size; (first | assumption | (repeat (first | exact Below.refl _ _ | assumption | apply Below.drew | apply below_drewN | (refine Below.setCell ?_ (by (try simp) <;> omega) _) | (refine Below.alloc ?_ (by (try simp) <;> omega) _)))))
      have O4 := Lib.hid (own_below O3.out ((Below.refl w3.heap.size w3).alloc (Nat.le_refl _) (.cells (bts J).toArray 26)))
      have SL : Hid (Sl (w3.alloc (.cells (bts J).toArray 26)) (w3.alloc (.cells (bts J).toArray 26)).heap.size 32 (some ⟨w3.heap.size, 0, none⟩) 1 (bts J)) := Lib.hid ⟨by rw [hJl], fun _ => ⟨w3.heap.size, 0, rfl, by simp, fun j u hu => by rw [Nat.zero_add, K4.out.cell, List.getElem?_toArray]; exact hu⟩⟩
      have hk70 : k ≤ 1000 := by omega
      clear K4 O3 L3 HB
      go_wp2_with (first
        | (refine wpList_new (by rfl) (run_slice_one 39 26 _ (by with_reducible rfl) Tryd.underlying39 (bts J) (by rfl) 32 hJl (by omega) (by omega) (fun w => Tryd.sizeOf26 w) _ (fun w => zero_hash w)) ?_)
        | (refine wpList_append_sl _ (by rfl) _ _ 39 (by rfl) w.heap.size 26 i0 _ 32 32 Tryd.underlying39 hi hz0 hz1 hz2 h0l (by omega) _ k (hCells ((L.take k).map digF)) (by rfl) O4.out (some ⟨w3.heap.size, 0, none⟩) 1 1 (bts J) (by rfl) SL.out bts_one (by unfold maxLen; omega) (by omega) L4.out.size ?_; intro v5 w5 ho_ hg_ hv_))
      rw [HT.out] at ho_
      obtain ⟨A5, c5, rfl, v51, v52, v5s⟩ := own_sl ho_
      have O5 := Lib.hid ho_
      have L5 : Hid (Below w.heap.size w w5) := Lib.hid (L4.out.grown hg_ L4.out.size (fun k hk => (own_cells O4.out hk).1))
      have hml : ((L.take (k + 1)).map digF).length = k + 1 := by rw [List.length_map, List.length_take]; omega
      have S5 := Lib.hid (show Sl w5 w5.heap.size 32 A5 ((L.take (k + 1)).map digF).length (hCells ((L.take (k + 1)).map digF)) by rw [hml]; exact v5s)
      clear ho_ hg_ hv_ O4 L4 SL v5s v51 v52
      obtain ⟨wo, rfl⟩ : ∃ wo : World, wo = wr := ⟨_, rfl⟩
      go_loopw [5] (fun i wr => ∃ (j : Nat), j ≤ k ∧ i = .int .i64 j ∧ NoC L k j ∧ Below w5.heap.size w5 wr) (fun i _ => k - (intOf i).toNat)
      case atStart => exact ⟨0, by omega, rfl, fun j a b h => by omega, Below.refl _ _⟩
      case round =>
        obtain ⟨j, hj, rfl, hnc, hbel⟩ := hrel
        have HNC := Lib.hid hnc
        have HB5 := Lib.hid hbel
        clear hnc hbel
        by_cases hjk : j < k
        · have hjk' : (j : Int) < (k : Int) := by omega
          have hbelw := Lib.hid (L5.out.trans (HB5.out.mono L5.out.size))
          obtain ⟨bj, offj, Aj, cj, tj, hAe, _, hLj, _, _, hWj⟩ := HE.out j (by omega)
          injection hAe with hAe
          injection hAe with h1 h2
          subst h1 h2
          have hml : ((L.take (k + 1)).map digF).length = k + 1 := by rw [List.length_map, List.length_take]; omega
          obtain ⟨b5, off5, xj, rfl, hb5, hxj, rj⟩ := S5.out.hsh (digs_32 _) (k := j) (by omega)
          obtain ⟨b5', off5', xk, hAe, hb5', hxk, rk⟩ := S5.out.hsh (digs_32 _) (k := k) (by omega)
          injection hAe with hAe
          injection hAe with h1 h2
          subst h1 h2
          have exj : xj = digF tj := by
            rw [List.getElem?_map, List.getElem?_take, if_pos (by omega), hLj] at hxj
            exact (Option.some.inj hxj).symm
          have exk : xk = J := by
            rw [List.getElem?_map, List.getElem?_take, if_pos (by omega), HLi.out] at hxk
            exact (Option.some.inj hxk).symm.trans HJ.out
          subst exk
          have hjl : xj.length = 32 := by rw [exj]; exact digF_len tj
          have hkl : xk.length = 32 := by rw [bts_len] at hJl; exact hJl
          have rj' := rangeAt_below rj HB5.out hb5
          have rk' := rangeAt_below rk HB5.out hb5
          have hb5r : b5 < wr.heap.size := Nat.lt_of_lt_of_le hb5 HB5.out.size
          have cjw : ∀ x : BW wr, x.val.cell? ⟨b, off + j, none⟩ = some (.slice Aj tj.length cj) := fun x => (hWj x.val (bw_all hbelw.out ⟨x, rfl⟩)).1
          have ckw : ∀ x : BW wr, x.val.cell? ⟨b, off + k, none⟩ = some (.slice Ai bi.length ci) := fun x => (HW.out x.val (bw_all hbelw.out ⟨x, rfl⟩)).1
          have sjw := Lib.hid fun W (hW : ∃ x : BW wr, W = x.val) => (hWj W (bw_all hbelw.out hW)).2
          have skw := Lib.hid fun W (hW : ∃ x : BW wr, W = x.val) => (HW.out W (bw_all hbelw.out hW)).2
          have HLj := Lib.hid hLj
          have EXJ := Lib.hid exj
          have RJ := Lib.hid rj'
          have RK := Lib.hid rk'
          clear hWj hLj hxj hxk rj rk rj' rk' exj hml
          by_cases heq : xj = xk
          · subst heq
            obtain ⟨S1, hS1⟩ : ∃ S, strOf tj = S := ⟨_, rfl⟩
            obtain ⟨S2, hS2⟩ : ∃ S, strOf bi = S := ⟨_, rfl⟩
            have hE := strOf_eq tj bi
            rw [hS1, hS2] at hE
            have CS1 := Lib.hid (fun (o : Oper) (a : Act) (W : World) (x : Operand) (ho : o.op = .convert 59 9 x) (hx : a.eval x = .slice Aj tj.length cj) (hW : ∃ x : BW wr, W = x.val) => run_cs x ho hx (sjw.out W hW))
            have CS2 := Lib.hid (fun (o : Oper) (a : Act) (W : World) (x : Operand) (ho : o.op = .convert 59 9 x) (hx : a.eval x = .slice Ai bi.length ci) (hW : ∃ x : BW wr, W = x.val) => run_cs x ho hx (skw.out W hW))
            rw [hS1] at CS1
            rw [hS2] at CS2
            clear hS1 hS2
            by_cases hts : tj = bi
            · rw [decide_eq_true hts] at hE
              have hE2 : S1.toList = S2.toList := by simpa using hE
              have HTS := Lib.hid hts
              clear hts
              go_wp2_with fail
              refine wp_region_bw (by kernel_rfl) (by kernel_rfl) ?_
              go_big_quiet_step (fail)
              go_big_quiet_step (fail)
              go_big_quiet_step (fail)
              go_big_quiet_want; (with_reducible apply quiet_val)
              case hr => exact fun W hW => run_ldh _ (by rfl) b5 (off5 + j * 32) (by rfl) xj hjl (bw_range hW RJ.out hb5r)
              go_simp
              go_big_quiet_on
              go_big_quiet_step (fail)
              go_big_quiet_step (fail)
              go_big_quiet_step (fail)
              go_big_quiet_want; (with_reducible apply quiet_val)
              case hr => exact fun W hW => run_ldh _ (by rfl) b5 (off5 + k * 32) (by rfl) xj hkl (bw_range hW RK.out hb5r)
              go_simp
              go_big_quiet_on
              go_big_quiet_want; (with_reducible apply quiet_val)
              case hr => exact fun W hW => run_same _ _ _ (by rfl) xj (by rfl) (by rfl) hjl
              go_simp
              go_big_quiet_on
              go_big_quiet_step (fail)
              go_big_quiet_step (fail)
              go_big_quiet_step (fail)
              go_big_quiet_step (fail)
              go_big_quiet_step (fail)
              go_big_quiet_want; (with_reducible apply quiet_val)
              case hr => exact fun W hW => CS1.out _ _ W _ (by rfl) (by rfl) hW
              go_simp
              go_big_quiet_on
              go_big_quiet_step (fail)
              go_big_quiet_step (fail)
              go_big_quiet_step (fail)
              go_big_quiet_step (fail)
              go_big_quiet_want; (with_reducible apply quiet_val)
              case hr => exact fun W hW => CS2.out _ _ W _ (by rfl) (by rfl) hW
              go_simp
              go_big_quiet_on
              go_big_quiet_step (fail)
              go_big_quiet_step (fail)
              refine wpQuiet_nil ?_; intro _ hwq; obtain ⟨⟨wq, hbq⟩, hwq'⟩ := hwq; subst hwq'
              go_wp2_with fail
              go_roundw
              case rel =>
                refine ⟨j + 1, by omega, by go_num, fun a p q h hp hq he => ?_, HB5.out.trans (hbq.mono HB5.out.size)⟩
                by_cases haj : a = j
                · subst haj
                  have e1 := HLj.out.symm.trans hp
                  have e2 := HLi.out.symm.trans hq
                  cases e1
                  cases e2
                  exact HTS.out
                · exact HNC.out a p q (by omega) hp hq he
              case measure => simp [intOf]; omega
            · rw [decide_eq_false hts] at hE
              have hE2 : ¬ S1.toList = S2.toList := by simpa using hE
              clear hts
              go_wp2_with fail
              refine wp_region_bw (by kernel_rfl) (by kernel_rfl) ?_
              go_big_quiet_step (fail)
              go_big_quiet_step (fail)
              go_big_quiet_step (fail)
              go_big_quiet_want; (with_reducible apply quiet_val)
              case hr => exact fun W hW => run_ldh _ (by rfl) b5 (off5 + j * 32) (by rfl) xj hjl (bw_range hW RJ.out hb5r)
              go_simp
              go_big_quiet_on
              go_big_quiet_step (fail)
              go_big_quiet_step (fail)
              go_big_quiet_step (fail)
              go_big_quiet_want; (with_reducible apply quiet_val)
              case hr => exact fun W hW => run_ldh _ (by rfl) b5 (off5 + k * 32) (by rfl) xj hkl (bw_range hW RK.out hb5r)
              go_simp
              go_big_quiet_on
              go_big_quiet_want; (with_reducible apply quiet_val)
              case hr => exact fun W hW => run_same _ _ _ (by rfl) xj (by rfl) (by rfl) hjl
              go_simp
              go_big_quiet_on
              go_big_quiet_step (fail)
              go_big_quiet_step (fail)
              go_big_quiet_step (fail)
              go_big_quiet_step (fail)
              go_big_quiet_step (fail)
              go_big_quiet_want; (with_reducible apply quiet_val)
              case hr => exact fun W hW => CS1.out _ _ W _ (by rfl) (by rfl) hW
              go_simp
              go_big_quiet_on
              go_big_quiet_step (fail)
              go_big_quiet_step (fail)
              go_big_quiet_step (fail)
              go_big_quiet_step (fail)
              go_big_quiet_want; (with_reducible apply quiet_val)
              case hr => exact fun W hW => CS2.out _ _ W _ (by rfl) (by rfl) hW
              go_simp
              go_big_quiet_on
              go_big_quiet_step (fail)
              go_big_quiet_step (fail)
              refine wpQuiet_nil ?_; intro _ hwq; obtain ⟨⟨wq, hbq⟩, hwq'⟩ := hwq; subst hwq'
              go_wp2_with fail
              go_ret
              exact ⟨rfl, hbelw.out.trans (hbq.mono hbelw.out.size)⟩
          · have HEQ := Lib.hid heq
            go_wp2_with fail
            refine wp_region_bw (by kernel_rfl) (by kernel_rfl) ?_
            go_big_quiet_step (fail)
            go_big_quiet_step (fail)
            go_big_quiet_step (fail)
            go_big_quiet_want; (with_reducible apply quiet_val)
            case hr => exact fun W hW => run_ldh _ (by rfl) b5 (off5 + j * 32) (by rfl) xj hjl (bw_range hW RJ.out hb5r)
            go_simp
            go_big_quiet_on
            go_big_quiet_step (fail)
            go_big_quiet_step (fail)
            go_big_quiet_step (fail)
            go_big_quiet_want; (with_reducible apply quiet_val)
            case hr => exact fun W hW => run_ldh _ (by rfl) b5 (off5 + k * 32) (by rfl) xk hkl (bw_range hW RK.out hb5r)
            go_simp
            go_big_quiet_on
            go_big_quiet_want; (with_reducible apply quiet_val)
            case hr => exact fun W hW => run_neh _ _ _ (by rfl) xj xk (by rfl) (by rfl) hjl hkl HEQ.out
            go_simp
            go_big_quiet_on
            repeat go_big_quiet_step (fail)
            refine wpQuiet_nil ?_; intro _ hwq; obtain ⟨⟨wq, hbq⟩, hwq'⟩ := hwq; subst hwq'
            go_wp2_with fail
            go_roundw
            case rel =>
              refine ⟨j + 1, by omega, by go_num, fun a p q h hp hq he => ?_, HB5.out.trans (hbq.mono HB5.out.size)⟩
              by_cases haj : a = j
              · subst haj
                have e1 := HLj.out.symm.trans hp
                have e2 := HLi.out.symm.trans hq
                cases e1
                cases e2
                exact absurd (EXJ.out.trans (he.trans HJ.out)) HEQ.out
              · exact HNC.out a p q (by omega) hp hq he
            case measure => simp [intOf]; omega
        · obtain rfl : j = k := by omega
          go_wp2_with fail
          have O6 := Lib.hid (own_below O5.out HB5.out)
          go_roundw
          case rel =>
            refine ⟨j + 1, by omega, by go_num, O6.out, fun i hi => ?_, L5.out.trans (HB5.out.mono L5.out.size)⟩
            by_cases e : i = j
            · subst e; exact HNC.out
            · exact HN.out i (by omega)
          case measure => simp [intOf]; omega
    · obtain rfl : k = L.length := by omega
      exact absurd HCL.out (noC_all HN.out)
end Go.Proofs.YtdeikpifflkabaaDoor

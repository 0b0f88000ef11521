/- What this text proves: the walk of the law MerkleOther: it returns true. The condition is that the package's table is as its text lays it. -/
import Derived.Test.YtdeikpifflkabaaDoorMerClash
import Derived.Test.YtdeikpifflkabaaDoorMerAlive
import Derived.Test.YtdeikpifflkabaaDoorMerPure
namespace Go.Proofs.YtdeikpifflkabaaDoor
open Go.RowKit Go.Shelf
set_option linter.unusedVariables false
set_option linter.unusedSimpArgs false

theorem rootV_ok {l : List Ent} (h : ascK l = true) : rootV l = (rootE l, 0) := by unfold rootV; rw [h, if_pos rfl]
theorem texts_long : ∀ (n : Nat) (l : List Ent), l.length = n → Fits l → ∀ b ∈ textsE l, b.length ≤ 1000 := by
  intro n
  induction n using Nat.strongRecOn with
  | _ n ih =>
    intro l hn hf b hb
    by_cases h : 2 ≤ l.length
    · have hlt := splitN_lt h
      have hpos := splitN_pos l.length
      rw [textsE_two h, List.mem_append, List.mem_append, List.mem_singleton, topT_two h] at hb
      rcases hb with (hb | hb) | hb
      · exact ih _ (by rw [List.length_take]; omega) _ rfl (hf.take _) b hb
      · exact ih _ (by rw [List.length_drop]; omega) _ rfl (hf.drop _) b hb
      · rw [hb, pairT, List.length_cons, List.length_append, rootE_len, rootE_len]; omega
    · rw [textsE_short h, List.mem_singleton] at hb
      rcases short_cases h with rfl | ⟨e, rfl⟩
      · rw [hb, topT_nil]; simp
      · have := hf e (by simp)
        rw [hb, topT_one, leafT, List.length_cons, List.length_append, List.length_append, lenB_len, Array.length_toList, Array.length_toList]
        have h1 : e.1.data.size = e.1.size := rfl
        have h2 : e.2.data.size = e.2.size := rfl
        omega

theorem exec_append {P : Program} {o : Oper} {a : Act} {w w' : World} {v v2 v' : Value} (s x : Operand) (t : TypeId) (ho : o.op = .call { callee := .builtin .append, args := #[s, x], argTypes := #[t, t] }) (hs : a.eval s = v) (hx : a.eval x = v2)
    (hrun : (Builtin.append_ #[t, t] o.type #[v, v2]).run P w = .ok v' w') : (execOp a.eval o).run P w = .ok (.value v') w' := by
  unfold execOp
  simp only [ho, resolve, invoke, builtin, Sem.run_bind, Sem.run_pure, Result.andThen_ok, List.map_toArray, List.map_cons, List.map_nil, hs, hx, hrun]
attribute [local irreducible] digF
set_option maxRecDepth 100000 in
set_option maxHeartbeats 8000000 in
theorem other_any (A A' : Option Addr) (l m : List Ent) (c c' : Nat) (w : World) (hr : Roots w) (h0 : 0 < w.heap.size) (hlc : l.length ≤ c) (hcm : c ≤ maxLen) (hlc' : m.length ≤ c') (hcm' : c' ≤ maxLen) (hA : Sl w w.heap.size 2 A l.length (eCells l)) (hA' : Sl w w.heap.size 2 A' m.length (eCells m)) :
    Calls Tryd.prog 3 #[.slice A l.length c, .slice A' m.length c'] w fun e w' => e = .returned (.bool true) ∧ Below w.heap.size w w' := by
  have hzh := zero_hash
  have h0l : (bts hash0).length = 32 := by rw [bts_len, hash0_len]
  have HR := Lib.hid hr
  have HA := Lib.hid hA
  have HA' := Lib.hid hA'
  have HC := Lib.hid (And.intro hcm hcm')
  have hAl := Lib.hid fun W (hb : Below w.heap.size w W) => alive_any W (hr.below hb h0) (Nat.lt_of_lt_of_le h0 hb.size)
  have hF1 := Lib.hid (few_any A l c w (by omega) hA)
  have hF2 := Lib.hid fun W (hb : Below w.heap.size w W) => few_any A' m c' W (by omega) ((hA'.below hb).more hb.size)
  clear hr hA hA' hcm hcm'
  go_enter Tryd.func3, Tryd.ntmps3
  go_wp2_with fail
  with_reducible refine hF1.out.mono ?_
  rintro e w1 ⟨b1, rfl, hb1, hB1⟩
  have B1 := Lib.hid hB1
  have F1 := Lib.hid hb1
  clear hB1 hb1 hF1
  go_wp2_with fail
  with_reducible refine (hF2.out w1 B1.out).mono ?_
  rintro e w2 ⟨b2, rfl, hb2, hB2⟩
  have B2 := Lib.hid (B1.out.trans (hB2.mono B1.out.size))
  have F2 := Lib.hid hb2
  clear hB2 hb2 hF2 B1
  cases b1 with
  | false =>
    go_wp2_with fail
    with_reducible refine (hAl.out _ B2.out).mono ?_
    rintro e w3 ⟨rfl, hb3⟩
    go_wp2_with fail
    go_ret
    exact ⟨rfl, B2.out.trans (hb3.mono B2.out.size)⟩
  | true =>
  cases b2 with
  | false =>
    go_wp2_with fail
    with_reducible refine (hAl.out _ B2.out).mono ?_
    rintro e w3 ⟨rfl, hb3⟩
    go_wp2_with fail
    go_ret
    exact ⟨rfl, B2.out.trans (hb3.mono B2.out.size)⟩
  | true =>
  obtain ⟨hl7, hfl⟩ := F1.out rfl
  obtain ⟨hm7, hfm⟩ := F2.out rfl
  have FL := Lib.hid hfl
  have FM := Lib.hid hfm
  clear hfl hfm F1 F2
  have hR1 := Lib.hid (right_any A l c w2 hl7 FL.out ((HA.out.below B2.out).more B2.out.size))
  go_wp2_with fail
  obtain ⟨s1, hs1⟩ : ∃ s, ascK l = s := ⟨_, rfl⟩
  rw [hs1] at hR1
  have HS1 := Lib.hid hs1
  clear hs1
  with_reducible refine hR1.out.mono ?_
  rintro e w3 ⟨rfl, hb3⟩
  have B3 := Lib.hid (B2.out.trans (hb3.mono B2.out.size))
  clear hb3 hR1 B2
  cases s1 with
  | false =>
    go_wp2_with fail
    with_reducible refine (hAl.out _ B3.out).mono ?_
    rintro e w4 ⟨rfl, hb4⟩
    go_wp2_with fail
    go_ret
    exact ⟨rfl, B3.out.trans (hb4.mono B3.out.size)⟩
  | true =>
  have hR2 := Lib.hid (right_any A' m c' w3 hm7 FM.out ((HA'.out.below B3.out).more B3.out.size))
  go_wp2_with fail
  obtain ⟨s2, hs2⟩ : ∃ s, ascK m = s := ⟨_, rfl⟩
  rw [hs2] at hR2
  have HS2 := Lib.hid hs2
  clear hs2
  with_reducible refine hR2.out.mono ?_
  rintro e w4 ⟨rfl, hb4⟩
  have B4 := Lib.hid (B3.out.trans (hb4.mono B3.out.size))
  clear hb4 hR2 B3
  cases s2 with
  | false =>
    go_wp2_with fail
    with_reducible refine (hAl.out _ B4.out).mono ?_
    rintro e w5 ⟨rfl, hb5⟩
    go_wp2_with fail
    go_ret
    exact ⟨rfl, B4.out.trans (hb5.mono B4.out.size)⟩
  | true =>
  obtain ⟨J, hJ⟩ : ∃ J, rootE l = J := ⟨_, rfl⟩
  obtain ⟨K, hK⟩ : ∃ K, rootE m = K := ⟨_, rfl⟩
  have hJl : J.length = 32 := by rw [← hJ, rootE_len]
  have hKl : K.length = 32 := by rw [← hK, rootE_len]
  have hbl : (bts J).length = 32 := by rw [bts_len, hJl]
  have hbk : (bts K).length = 32 := by rw [bts_len, hKl]
  have hc1 := Root_any A l c w4 hl7 FL.out (HR.out.below B4.out h0) (Nat.lt_of_lt_of_le h0 B4.out.size) ((HA.out.below B4.out).more B4.out.size)
  rw [rootV_ok HS1.out, hJ] at hc1
  have HC1 := Lib.hid hc1
  have HC2 := Lib.hid (show ∀ W, Below w.heap.size w W → Calls Tryd.prog 12 #[.slice A' m.length c'] W fun e w' => e = .returned (.tuple #[.agg (bts K).toArray, .int .i64 0]) ∧ Below W.heap.size W w' from fun W hW => by
    have := Root_any A' m c' W hm7 FM.out (HR.out.below hW h0) (Nat.lt_of_lt_of_le h0 hW.size) ((HA'.out.below hW).more hW.size)
    rwa [rootV_ok HS2.out, hK] at this)
  have HJ := Lib.hid hJ
  have HK := Lib.hid hK
  clear hc1 hJ hK
  go_wp2_with fail
  with_reducible refine HC1.out.mono ?_
  rintro e w5 ⟨rfl, hb5⟩
  have B5 := Lib.hid (B4.out.trans (hb5.mono B4.out.size))
  clear hb5 HC1 B4
  go_upto_region 6 with (refine wpList_puts (by rfl) 26 _ _ (by with_reducible rfl) _ 0 (by rfl) (bts J) (by rfl) 26 (bts hash0) (by exact Bk.new _ _ _) 32 hbl (by rw [h0l]; omega) hi_hash bts_all ?_; intro w6 hb_ hm_ hz_; rw [put_hash0 _ hJl] at hb_; have KH6 := Lib.hid hb_; have M6 := Lib.hid hm_; clear hb_ hm_ hz_)
  have B6 : Hid (Below w.heap.size w w6) := Lib.hid ((B5.out.alloc B5.out.size (.cells (bts hash0).toArray 26)).trans (M6.out.to_below (by have := B5.out.size; simp; omega) (fun k o e => by rw [e]; exact B5.out.size)))
  have KA6 := KH6.out
  obtain ⟨ga, hga⟩ : ∃ g, w5.heap.size = g := ⟨_, rfl⟩
  rw [hga] at KA6 ⊢
  have KA := Lib.hid KA6
  clear KA6 KH6 M6 B5 hga
  go_wp2_with fail
  with_reducible refine (HC2.out w6 B6.out).mono ?_
  rintro e w7 ⟨rfl, hb7⟩
  have B7 := Lib.hid (B6.out.trans (hb7.mono B6.out.size))
  have KA7 := Lib.hid (KA.out.below hb7 KA.out.lt)
  clear hb7 HC2 B6 KA
  go_upto_region 7 with (refine wpList_puts (by rfl) 26 _ _ (by with_reducible rfl) _ 0 (by rfl) (bts K) (by rfl) 26 (bts hash0) (by exact Bk.new _ _ _) 32 hbk (by rw [h0l]; omega) hi_hash bts_all ?_; intro w8 hb_ hm_ hz_; rw [put_hash0 _ hKl] at hb_; have KH8 := Lib.hid hb_; have M8 := Lib.hid hm_; clear hb_ hm_ hz_)
  have B8 : Hid (Below w.heap.size w w8) := Lib.hid ((B7.out.alloc B7.out.size (.cells (bts hash0).toArray 26)).trans (M8.out.to_below (by have := B7.out.size; simp; omega) (fun k o e => by rw [e]; exact B7.out.size)))
  have KB8 := KH8.out
  obtain ⟨gb, hgb⟩ : ∃ g, w7.heap.size = g := ⟨_, rfl⟩
  have hab : ga < gb := by rw [← hgb]; exact KA7.out.lt
  rw [hgb] at KB8 ⊢
  have KB := Lib.hid KB8
  have KA := Lib.hid (M8.out.bk (KA7.out.alloc (.cells (bts hash0).toArray 26)) (by rw [hgb]; omega))
  clear KB8 KH8 M8 B7 KA7 hgb
  go_wp2_with fail
  go_loopw [11, 12] (fun s i wr => ∃ (k : Nat) (b : Bool), k ≤ l.length ∧ i = .int .i64 k ∧ s = .bool b ∧ (b = true → l.length = m.length ∧ l.take k = m.take k) ∧ (b = false → l ≠ m) ∧ Below w8.heap.size w8 wr) (fun _ i _ => l.length - (intOf i).toNat)
  case atStart =>
    refine ⟨0, ((l.length : Int) == (m.length : Int)), by omega, rfl, rfl, fun h => ⟨by simp at h; omega, rfl⟩, fun h e => ?_, Below.refl _ _⟩
    subst e
    simp at h
  case round =>
    obtain ⟨k, b, hk, rfl, rfl, ht, hf, hbel⟩ := hrel
    have T := Lib.hid ht
    have F := Lib.hid hf
    have B9 := Lib.hid (B8.out.trans (hbel.mono B8.out.size))
    have B89 := Lib.hid hbel
    have KA9 := Lib.hid (KA.out.below hbel KA.out.lt)
    have KB9 := Lib.hid (KB.out.below hbel KB.out.lt)
    clear ht hf hbel KA KB
    cases b with
    | false =>
      have hne := F.out rfl
      have HNE := Lib.hid hne
      clear hne
      by_cases heq : J = K
      · subst heq
        have hcl := Lib.hid (other_tree FL.out FM.out (HJ.out.trans HK.out.symm) HNE.out)
        go_upto_region 15 with (first
          | (refine wpList_val (by rfl) (run_ldh _ (by with_reducible rfl) ga 0 (by rfl) J hJl (by exact KA9.out.all)) ?_)
          | (refine wpList_val (by rfl) (run_ldh _ (by with_reducible rfl) gb 0 (by rfl) J hJl (by exact KB9.out.all)) ?_)
          | (refine wpList_val (by rfl) (run_same _ _ _ (by with_reducible rfl) J (by rfl) (by rfl) hJl) ?_))
        obtain ⟨i0, hi, hz0, hz1, hz2⟩ := info_parts slu8_info
        obtain ⟨L1, hL1⟩ : ∃ L, textsE l = L := ⟨_, rfl⟩
        obtain ⟨L2, hL2⟩ : ∃ L, textsE m = L := ⟨_, rfl⟩
        have hL1l : L1.length ≤ 140 := by rw [← hL1]; exact textsE_le (by omega)
        have hL2l : L2.length ≤ 140 := by rw [← hL2]; exact textsE_le (by omega)
        have HLO := Lib.hid (show ∀ b ∈ L1 ++ L2, b.length ≤ 100000 from fun b hb => by
          rw [List.mem_append] at hb
          rcases hb with hb | hb
          · have := texts_long _ l rfl FL.out b (by rw [hL1]; exact hb); omega
          · have := texts_long _ m rfl FM.out b (by rw [hL2]; exact hb); omega)
        rw [hL1, hL2] at hcl
        have HT1 := Lib.hid (fun W hW => texts_any l.length l A c W rfl hl7 hlc HC.out.1 FL.out ((HA.out.below hW).more (Below.size hW)))
        have HT2 := Lib.hid (fun W hW => texts_any m.length m A' c' W rfl hm7 hlc' HC.out.2 FM.out ((HA'.out.below hW).more (Below.size hW)))
        rw [hL1] at HT1
        rw [hL2] at HT2
        clear hL1 hL2
        go_wp2_with fail
        with_reducible refine (hAl.out _ B9.out).mono ?_
        rintro e w10 ⟨rfl, hb10⟩
        have B10 := Lib.hid (B9.out.trans (hb10.mono B9.out.size))
        clear hb10 B9 B89 KA9 KB9
        go_wp2_with fail
        with_reducible refine (HT1.out _ B10.out).mono ?_
        rintro e w11 ⟨v1, rfl, hv1, hb11⟩
        have B11 := Lib.hid (B10.out.trans (hb11.mono B10.out.size))
        have V1 := Lib.hid (hv1.low B10.out.size)
        clear hb11 hv1 HT1 B10
        go_wp2_with fail
        with_reducible refine (HT2.out _ B11.out).mono ?_
        rintro e w12 ⟨v2, rfl, hv2, hb12⟩
        have B12 := Lib.hid (B11.out.trans (hb12.mono B11.out.size))
        obtain ⟨xs, x1, x2, x3⟩ := stays_rds _ _ _ _ _ V1.out hb12
        obtain ⟨ys, y1, y2, y3⟩ := hv2
        obtain ⟨A2, c2, rfl, s1, s2, s3⟩ := own_sl y1
        obtain ⟨v3, w13, hrun, ho3, hg3, _⟩ := run_append_sl (P := Tryd.prog) w12 w.heap.size 33 33 59 i0 _ 1 24 Tryd.underlying33 hi hz0 hz1 hz2 rfl (by omega) v1 L1.length xs x1 A2 L2.length c2 ys s3 (rds_ones y3) (by unfold maxLen; omega) (by omega) B12.out.size
        have V3 := rds_append x1 x2 x3 y2 y3 ho3 hg3
        have B13 := Lib.hid (B12.out.grown hg3 B12.out.size (fun k hk => (own_cells x1 hk).1))
        obtain ⟨zs, z1, z2, z3⟩ := V3
        obtain ⟨A3, c3, rfl, q1, q2, q3⟩ := own_sl z1
        have hcc := clash_any A3 (L1 ++ L2) zs c3 w13 (by rw [List.length_append]; omega) HLO.out q3 z3 hcl.out
        rw [List.length_append] at hcc
        have HCLc := Lib.hid hcc
        have HRUN := Lib.hid hrun
        clear hb12 x1 x2 x3 y1 y2 y3 s1 s2 s3 hrun hcc ho3 hg3 z1 z2 z3 q1 q2 q3 V1 HT2 B11 B12
        go_wp2_with (refine wpList_new (by rfl) (exec_append _ _ 33 (by with_reducible rfl) (by rfl) (by rfl) (by exact HRUN.out)) ?_)
        with_reducible refine HCLc.out.mono ?_
        rintro e w14 ⟨rfl, hb14⟩
        go_wp2_with fail
        go_ret
        exact ⟨rfl, B13.out.trans (hb14.mono B13.out.size)⟩
      · have HEQ := Lib.hid heq
        clear heq
        go_upto_region 16 with (first
          | (refine wpList_val (by rfl) (run_ldh _ (by with_reducible rfl) ga 0 (by rfl) J hJl (by exact KA9.out.all)) ?_)
          | (refine wpList_val (by rfl) (run_ldh _ (by with_reducible rfl) gb 0 (by rfl) K hKl (by exact KB9.out.all)) ?_)
          | (refine wpList_val (by rfl) (run_neh _ _ _ (by with_reducible rfl) J K (by rfl) (by rfl) hJl hKl HEQ.out) ?_))
        go_wp2_with fail
        with_reducible refine (hAl.out _ B9.out).mono ?_
        rintro e w10 ⟨rfl, hb10⟩
        have B10 := Lib.hid (B9.out.trans (hb10.mono B9.out.size))
        have KA10 := Lib.hid (KA9.out.below hb10 KA9.out.lt)
        have KB10 := Lib.hid (KB9.out.below hb10 KB9.out.lt)
        clear hb10 B9 B89 KA9 KB9
        go_wp2_with (first
          | (refine wpList_val (by rfl) (run_ldh _ (by with_reducible rfl) ga 0 (by rfl) J hJl (by exact KA10.out.all)) ?_)
          | (refine wpList_val (by rfl) (run_ldh _ (by with_reducible rfl) gb 0 (by rfl) K hKl (by exact KB10.out.all)) ?_)
          | (refine wpList_val (by rfl) (run_neh _ _ _ (by with_reducible rfl) J K (by rfl) (by rfl) hJl hKl HEQ.out) ?_))
        go_ret
        exact ⟨rfl, B10.out⟩
    | true =>
      obtain ⟨hlen, htk⟩ := T.out rfl
      have HLN := Lib.hid hlen
      have HTK := Lib.hid htk
      clear hlen htk
      by_cases hlt : k < l.length
      · have hlt' : (k : Int) < (l.length : Int) := by omega
        have hlt2 : (k : Int) < (m.length : Int) := by have := HLN.out; omega
        obtain ⟨b, off, ka, va, rfl, hb, hca, hva, hla⟩ := (HA.out.below B9.out).ent hlt
        obtain ⟨b', off', kb, vb, rfl, hb', hcb, hvb, hlb⟩ := (HA'.out.below B9.out).ent (k := k) (by rw [← HLN.out]; exact hlt)
        have E0 := ent_eql ka va kb vb
        obtain ⟨q, hq⟩ : ∃ q, decide ((ka, va) = (kb, vb)) = q := ⟨_, rfl⟩
        rw [hq] at E0
        have HQ := Lib.hid hq
        have HLA := Lib.hid hla
        have HLB := Lib.hid hlb
        clear hla hlb hq
        go_wp2_with fail
        go_quiet (fail)
        go_wp2_with fail
        go_roundw
        case rel =>
          refine ⟨k + 1, q, by omega, by go_num, rfl, fun h => ⟨HLN.out, ?_⟩, fun h e => ?_, by have hbel := B89.out; (first | assumption | (repeat (first | exact Below.refl _ _ | assumption | apply Below.drew | apply below_drewN | (refine Below.setCell ?_ (by (try simp) <;> omega) _) | (refine Below.alloc ?_ (by (try simp) <;> omega) _))))⟩
          · have := HQ.out
            rw [h, decide_eq_true_eq] at this
            rw [take_at HLA.out, take_at HLB.out, HTK.out, this]
          · subst e
            have h1 := HLA.out.symm.trans HLB.out
            have := HQ.out
            rw [h, decide_eq_false_iff_not] at this
            exact this (Option.some.inj h1)
        case measure => simp [intOf]; omega
      · obtain rfl : k = l.length := by omega
        have hE : l = m := by
          have h1 := HTK.out
          rw [List.take_length, HLN.out, List.take_length] at h1
          exact h1
        have hJK : J = K := by rw [← HJ.out, ← HK.out, hE]
        clear hE
        subst hJK
        go_wp2_with fail
        with_reducible refine (hAl.out _ B9.out).mono ?_
        rintro e w10 ⟨rfl, hb10⟩
        have B10 := Lib.hid (B9.out.trans (hb10.mono B9.out.size))
        have KA10 := Lib.hid (KA9.out.below hb10 KA9.out.lt)
        have KB10 := Lib.hid (KB9.out.below hb10 KB9.out.lt)
        clear hb10 B9 B89 KA9 KB9
        go_wp2_with (first
          | (refine wpList_val (by rfl) (run_ldh _ (by with_reducible rfl) ga 0 (by rfl) J hJl (by exact KA10.out.all)) ?_)
          | (refine wpList_val (by rfl) (run_ldh _ (by with_reducible rfl) gb 0 (by rfl) J hJl (by exact KB10.out.all)) ?_)
          | (refine wpList_val (by rfl) (run_same _ _ _ (by with_reducible rfl) J (by rfl) (by rfl) hJl) ?_))
        go_ret
        exact ⟨rfl, B10.out⟩
theorem other_walk (A : Option Addr) (l : List Ent) (c : Nat) (hlc : l.length ≤ c) (hcm : c ≤ maxLen) {w : World} (hA : Sl w w.heap.size 2 A l.length (eCells l)) (A' : Option Addr) (m : List Ent) (c' : Nat) (hlc' : m.length ≤ c') (hcm' : c' ≤ maxLen) (hA' : Sl w w.heap.size 2 A' m.length (eCells m)) (_ : World) (hr : Roots w ∧ 0 < w.heap.size) :
    Calls Tryd.prog 3 #[.slice A l.length c, .slice A' m.length c'] w fun e w' => e = .returned (.bool true) ∧ Below w.heap.size w w' := other_any A A' l m c c' w hr.1 hr.2 hlc hcm hlc' hcm' hA hA'
end Go.Proofs.YtdeikpifflkabaaDoor

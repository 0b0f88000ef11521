/- What this text proves: the contract of the law WireSizes. The conditions are how the argument lies in memory. -/
import Derived.Test.YtclnpglnomfjkaaDoorWireWrites
namespace Go.Proofs.YtclnpglnomfjkaaDoor
open Go.RowKit Go.Shelf
set_option linter.unusedVariables false
set_option linter.unusedSimpArgs false

theorem WI.step2 {w W3 W4 W5 : World} {b : Nat} {l : List Fd} {k m : Nat} {v4 : Value} {lw lx : List UInt8} (hb3 : Below w.heap.size w W3) (hw : Wr W3 w.heap.size b false (lw ++ lx)) (ho : Own8 W4 W3.heap.size v4 (lw ++ lx)) (h4 : Below W3.heap.size W3 W4) (h5 : Below W4.heap.size W4 W5) (hm : lx.length = m) (hlen : lw.length ≤ 5000 * k) (hx : m ≤ 5000) : WI w W5 b l (k + 1) v4 false (lw ++ lx) := by
  have hlt := hw.ge.2
  have hb4 := hb3.trans (h4.mono hb3.size)
  exact ⟨hb4.trans (h5.mono hb4.size), (hw.old h4).old h5, own8_low (ho.old h5) hb3.size, (ho.fresh hw h4).old (Nat.lt_of_lt_of_le hlt h4.size) h5, by rw [List.length_append]; omega⟩
theorem same_take {w : World} {A A' : Option Addr} {l x : List UInt8} {c c' : Nat} (h : Sl w w.heap.size 1 A (l ++ x).length (bts (l ++ x))) (h' : Sl w w.heap.size 1 A' l.length (bts l)) :
    Calls Tryd.prog 19 #[.slice A l.length c, .slice A' l.length c'] w fun e w' => e = .returned (.bool true) ∧ Below w.heap.size w w' := by
  have h1 := h.take (k := l.length) (by simp)
  rw [Nat.mul_one, bts_take, List.take_left] at h1
  refine (same02_any A A' l l c c' w h1 h').mono ?_
  rw [decide_eq_true rfl]
  exact fun e w' h => h
set_option maxRecDepth 100000 in
set_option maxHeartbeats 16000000 in
theorem sizes_any (A : Option Addr) (l : List Fd) (c : Nat) (w : World) (hl : l.length ≤ c) (hcm : c ≤ maxLen) (hA : Sl w w.heap.size 36 A l.length (l.flatMap Fd.cells)) (hf : ∀ i ∈ l, i.good) :
    Calls Tryd.prog 4 #[.slice A l.length c] w fun e w' => e = .returned (.bool true) ∧ Below w.heap.size w w' := by
  have HS := Lib.hid hA
  have HF := Lib.hid hf
  unfold maxLen at hcm
  clear hA hf
  go_enter Tryd.func4, Tryd.ntmps4
  go_wp2_with fail
  with_reducible refine (newWriter_any w.heap.size w (Nat.le_refl _)).mono ?_
  rintro e w1 ⟨rfl, hw, hb⟩
  obtain ⟨b, hbn⟩ : ∃ b, w.heap.size = b := ⟨_, rfl⟩
  have HW := Lib.hid hw
  have HB := Lib.hid hb
  rw [hbn] at HW
  clear hw hb
  rw [hbn]
  go_wp2_with fail
  with_reducible refine (alive_any w1).mono ?_
  rintro e w2 ⟨rfl, hb⟩
  have HW2 := Lib.hid (HW.out.old hb)
  have HB2 := Lib.hid (HB.out.trans (hb.mono HB.out.size))
  have HY := Lib.hid (wbytes_any _ _ _ w2 HW2.out (by simp))
  have HBN := Lib.hid hbn
  clear hb HB HW
  go_wp2_with fail
  with_reducible refine HY.out.mono ?_
  rintro e w3 ⟨v3, rfl, ho, hb⟩
  have HI := Lib.hid (show WI w w3 b l 0 v3 false [] from ⟨HB2.out.trans (hb.mono HB2.out.size), by rw [HBN.out]; exact HW2.out.old hb, own8_low ho HB2.out.size, ho.fresh HW2.out hb, by simp⟩)
  clear ho hb HY HB2 HW2 hbn
  go_wp2_with fail
  go_loopw [4, 6] (fun v i wr => ∃ (k : Nat) (lw : List UInt8), k ≤ l.length ∧ k ≤ 40 ∧ i = .int .i64 k ∧ WI w wr b l k v false lw) (fun _ i _ => 40 - (intOf i).toNat)
  case atStart => exact ⟨0, _, by omega, by omega, rfl, HI.out⟩
  case round =>
    obtain ⟨k, lw, hk1, hk2, rfl, hi⟩ := hrel
    have H := Lib.hid hi
    clear hi HI
    by_cases hlt : k < l.length ∧ k < 40
    · obtain ⟨h1, h2⟩ := hlt
      have e1 : (k : Int) < (l.length : Int) := by omega
      have e2 : (k : Int) < 40 := by omega
      obtain ⟨f, hfk⟩ : ∃ f, l[k]? = some f := ⟨_, List.getElem?_eq_getElem h1⟩
      have HG := Lib.hid (HF.out f (List.mem_of_getElem? hfk))
      obtain ⟨ba, oa, rfl, hba, hfa⟩ := fd_at (HS.out.below H.out.bel) HF.out hfk
      have HG1 : Hid (f.h.length = 32) := Lib.hid HG.out.len
      have HFA := Lib.hid hfa
      have hck := hfa.kind
      have HLEN := Lib.hid H.out.len
      have HLL : Hid (lw.length ≤ 100000000) := Lib.hid (by have := H.out.len; omega)
      clear hfk hfa
      by_cases hk1 : f.kind = 1
      · have hk : f.kind = 1 := hk1
        have k1 : (f.kind == 1) = true := by simp; omega
        have hcn := HFA.out.n
        go_wp2_with fail
        with_reducible refine (wnumber_any w.heap.size b false lw f.n wr H.out.wr H.out.bel.size HLL.out).mono ?_
        rintro e w3 ⟨rfl, hw⟩
        obtain ⟨hb3, hw3, ho3, hs3⟩ := H.out.call hw
        have HB3 := Lib.hid hb3
        have HW3 := Lib.hid hw3
        have HO3 := Lib.hid ho3
        have HY := Lib.hid (wbytes_any _ _ _ w3 hw3 (by rw [List.length_append, beB_len]; have := HLEN.out; omega))
        clear hw hb3 hw3 ho3 hs3 hck
        clear hcn
        go_wp2_with fail
        with_reducible refine HY.out.mono ?_
        rintro e w4 ⟨v4, rfl, ho4, hb4⟩
        have HO4 := Lib.hid ho4
        have HB4 := Lib.hid hb4
        obtain ⟨A4, c4, rfl, hlc4, hcm4, hs4⟩ := own_sl ho4
        obtain ⟨A3, c3, hv3, _, _, hs3⟩ := own_sl (HO3.out.old hb4)
        rw [hv3] at HO3 ⊢
        have hsame := same_take hs4 hs3 (c := c4) (c' := c3)
        rw [List.length_append, beB_len] at hlc4 ⊢
        obtain ⟨ln, hln⟩ : ∃ n, lw.length = n := ⟨_, rfl⟩
        have hln2 : ln ≤ 200000 := by have := HLEN.out; omega
        rw [hln] at hsame hlc4 ⊢
        unfold maxLen at hcm4
        have HSM := Lib.hid hsame
        clear ho4 hb4 hs4 hs3 hsame HY hv3
        have e7 : (((ln + 8 : Nat) : Int) != (ln : Int) + 8) = false := by simp
        go_wp2_with fail
        with_reducible refine HSM.out.mono ?_
        rintro e w5 ⟨rfl, hb5⟩
        have H5 := Lib.hid (WI.step2 (l := l) HB3.out HW3.out HO4.out HB4.out hb5 (m := 8) (by rw [beB_len]) HLEN.out (by omega))
        clear hb5 HSM
        go_wp2_with fail
        go_roundw
        case rel =>
          have h5 := H5.out
          rw [List.length_append, beB_len, hln] at h5
          exact ⟨k + 1, _, by omega, by omega, by go_num, h5⟩
        case measure => simp [intOf]; try omega
      by_cases hk2 : f.kind = 2
      · have hk : f.kind = 2 := hk2
        have k1 : (f.kind == 1) = false := by simp; omega
        have k2 : (f.kind == 2) = true := by simp; omega
        have hcn := HFA.out.wd
        go_wp2_with fail
        with_reducible refine (wword_any w.heap.size b false lw f.wd.toNat f.wd (wd_nat HG.out).1 wr H.out.wr H.out.bel.size (wd_nat HG.out).2 HLL.out).mono ?_
        rintro e w3 ⟨rfl, hw⟩
        obtain ⟨hb3, hw3, ho3, hs3⟩ := H.out.call hw
        have HB3 := Lib.hid hb3
        have HW3 := Lib.hid hw3
        have HO3 := Lib.hid ho3
        have HY := Lib.hid (wbytes_any _ _ _ w3 hw3 (by rw [List.length_append, beB_len]; have := HLEN.out; omega))
        clear hw hb3 hw3 ho3 hs3 hck
        clear hcn
        go_wp2_with fail
        with_reducible refine HY.out.mono ?_
        rintro e w4 ⟨v4, rfl, ho4, hb4⟩
        have HO4 := Lib.hid ho4
        have HB4 := Lib.hid hb4
        obtain ⟨A4, c4, rfl, hlc4, hcm4, hs4⟩ := own_sl ho4
        obtain ⟨A3, c3, hv3, _, _, hs3⟩ := own_sl (HO3.out.old hb4)
        rw [hv3] at HO3 ⊢
        have hsame := same_take hs4 hs3 (c := c4) (c' := c3)
        rw [List.length_append, beB_len] at hlc4 ⊢
        obtain ⟨ln, hln⟩ : ∃ n, lw.length = n := ⟨_, rfl⟩
        have hln2 : ln ≤ 200000 := by have := HLEN.out; omega
        rw [hln] at hsame hlc4 ⊢
        unfold maxLen at hcm4
        have HSM := Lib.hid hsame
        clear ho4 hb4 hs4 hs3 hsame HY hv3
        have e7 : (((ln + 8 : Nat) : Int) != (ln : Int) + 8) = false := by simp
        go_wp2_with fail
        with_reducible refine HSM.out.mono ?_
        rintro e w5 ⟨rfl, hb5⟩
        have H5 := Lib.hid (WI.step2 (l := l) HB3.out HW3.out HO4.out HB4.out hb5 (m := 8) (by rw [beB_len]) HLEN.out (by omega))
        clear hb5 HSM
        go_wp2_with fail
        go_roundw
        case rel =>
          have h5 := H5.out
          rw [List.length_append, beB_len, hln] at h5
          exact ⟨k + 1, _, by omega, by omega, by go_num, h5⟩
        case measure => simp [intOf]; try omega
      by_cases hk3 : f.kind = 3
      · have hk : f.kind = 3 := hk3
        have k1 : (f.kind == 1) = false := by simp; omega
        have k2 : (f.kind == 2) = false := by simp; omega
        have k3 : (f.kind == 3) = true := by simp; omega
        go_wp2_with (refine wpList_val (by rfl) (run_load_seg 29 _ (by with_reducible rfl) _ _ (by rfl) _ HFA.out.h 32 (by rw [bts_len]; exact HG1.out) _ Tryd.underlying29 (by rfl) whi_hash) ?_)
        with_reducible refine (whash_any w.heap.size b false lw f.h wr H.out.wr H.out.bel.size HLL.out HG1.out).mono ?_
        rintro e w3 ⟨rfl, hw⟩
        obtain ⟨hb3, hw3, ho3, hs3⟩ := H.out.call hw
        have HB3 := Lib.hid hb3
        have HW3 := Lib.hid hw3
        have HO3 := Lib.hid ho3
        have HY := Lib.hid (wbytes_any _ _ _ w3 hw3 (by rw [List.length_append, HG1.out]; have := HLEN.out; omega))
        clear hw hb3 hw3 ho3 hs3 hck
        clear k1
        go_wp2_with fail
        with_reducible refine HY.out.mono ?_
        rintro e w4 ⟨v4, rfl, ho4, hb4⟩
        have HO4 := Lib.hid ho4
        have HB4 := Lib.hid hb4
        obtain ⟨A4, c4, rfl, hlc4, hcm4, hs4⟩ := own_sl ho4
        obtain ⟨A3, c3, hv3, _, _, hs3⟩ := own_sl (HO3.out.old hb4)
        rw [hv3] at HO3 ⊢
        have hsame := same_take hs4 hs3 (c := c4) (c' := c3)
        rw [List.length_append, HG1.out] at hlc4 ⊢
        obtain ⟨ln, hln⟩ : ∃ n, lw.length = n := ⟨_, rfl⟩
        have hln2 : ln ≤ 200000 := by have := HLEN.out; omega
        rw [hln] at hsame hlc4 ⊢
        unfold maxLen at hcm4
        have HSM := Lib.hid hsame
        clear ho4 hb4 hs4 hs3 hsame HY hv3
        have e7 : (((ln + 32 : Nat) : Int) != (ln : Int) + 32) = false := by simp
        go_wp2_with fail
        with_reducible refine HSM.out.mono ?_
        rintro e w5 ⟨rfl, hb5⟩
        have H5 := Lib.hid (WI.step2 (l := l) HB3.out HW3.out HO4.out HB4.out hb5 (m := 32) (by rw [HG1.out]) HLEN.out (by omega))
        clear hb5 HSM
        go_wp2_with fail
        go_roundw
        case rel =>
          have h5 := H5.out
          rw [List.length_append, HG1.out, hln] at h5
          exact ⟨k + 1, _, by omega, by omega, by go_num, h5⟩
        case measure => simp [intOf]; try omega
      by_cases hk4 : f.kind = 4
      · have hk : f.kind = 4 := hk4
        have hcs := HFA.out.s
        by_cases hsz : f.s.size ≤ 4096
        · have hsz2 : (f.s.size : Int) ≤ 4096 := by omega
          have k1 : (f.kind == 1) = false := by simp; omega
          have k2 : (f.kind == 2) = false := by simp; omega
          have k3 : (f.kind == 3) = false := by simp; omega
          have k4 : (f.kind == 4) = true := by simp; omega
          have hT := wtext_any w.heap.size b false lw f.s wr H.out.wr H.out.bel.size HLL.out hsz
          rw [List.append_assoc] at hT
          have hL4 : (beB f.s.size 2 ++ f.s.data.toList).length = 2 + f.s.size := by rw [List.length_append, beB_len]; rfl
          obtain ⟨lx, hlx⟩ : ∃ lx, beB f.s.size 2 ++ f.s.data.toList = lx := ⟨_, rfl⟩
          rw [hlx] at hT hL4
          have HL4 := Lib.hid hL4
          have HT := Lib.hid hT
          clear hT hL4 hlx
          go_wp2_with fail
          with_reducible refine (HT.out).mono ?_
          rintro e w3 ⟨rfl, hw⟩
          have hb3' := hw.2.1
          obtain ⟨hb3, hw3, ho3, hs3⟩ := H.out.call hw
          have HB3 := Lib.hid hb3
          have HW3 := Lib.hid hw3
          have HO3 := Lib.hid ho3
          have HY := Lib.hid (wbytes_any _ _ _ w3 hw3 (by rw [List.length_append, HL4.out]; have := HLEN.out; omega))
          clear hw hb3 hw3 ho3 hs3 hck
          have hcs := (HFA.out.below hb3' hba).s
          go_wp2_with fail
          with_reducible refine HY.out.mono ?_
          rintro e w4 ⟨v4, rfl, ho4, hb4⟩
          have HO4 := Lib.hid ho4
          have HB4 := Lib.hid hb4
          obtain ⟨A4, c4, rfl, hlc4, hcm4, hs4⟩ := own_sl ho4
          obtain ⟨A3, c3, hv3, _, _, hs3⟩ := own_sl (HO3.out.old hb4)
          rw [hv3] at HO3 ⊢
          have hsame := same_take hs4 hs3 (c := c4) (c' := c3)
          rw [List.length_append, HL4.out] at hlc4 ⊢
          obtain ⟨ln, hln⟩ : ∃ n, lw.length = n := ⟨_, rfl⟩
          have hln2 : ln ≤ 200000 := by have := HLEN.out; omega
          rw [hln] at hsame hlc4 ⊢
          unfold maxLen at hcm4
          have HSM := Lib.hid hsame
          clear ho4 hb4 hs4 hs3 hsame HY hv3
          have e7 : ((ln : Int) + (2 + (f.s.size : Int)) != (ln : Int) + (2 + (f.s.size : Int))) = false := by simp
          go_wp2_with fail
          with_reducible refine HSM.out.mono ?_
          rintro e w5 ⟨rfl, hb5⟩
          have H5 := Lib.hid (WI.step2 (l := l) HB3.out HW3.out HO4.out HB4.out hb5 (m := (2 + f.s.size)) (by rw [HL4.out]) HLEN.out (by omega))
          clear hb5 HSM
          go_wp2_with fail
          go_roundw
          case rel =>
            have h5 := H5.out
            rw [List.length_append, HL4.out, hln] at h5
            exact ⟨k + 1, _, by omega, by omega, by go_num, h5⟩
          case measure => simp [intOf]; try omega
        · have hsz2 : decide (4096 < (f.s.size : Int)) = true := by simp; omega
          have k1 : (f.kind == 1) = false := by simp; omega
          have k2 : (f.kind == 2) = false := by simp; omega
          have k3 : (f.kind == 3) = false := by simp; omega
          have k4 : (f.kind == 4) = true := by simp; omega
          have HT := Lib.hid (wtext_long w.heap.size b false lw f.s wr H.out.wr (by omega))
          go_wp2_with fail
          with_reducible refine HT.out.mono ?_
          rintro e w3 ⟨rfl, hw⟩
          obtain ⟨hb3, hw3, ho3, hs3⟩ := H.out.call hw
          have HB3 := Lib.hid hb3
          have HY := Lib.hid (wbytes_bad _ _ _ w3 hw3)
          clear hw hb3 hw3 ho3 hs3
          go_wp2_with fail
          with_reducible refine HY.out.mono ?_
          rintro e w4 ⟨rfl, hb⟩
          have HB4 := Lib.hid (HB3.out.trans (hb.mono HB3.out.size))
          clear hb HY
          go_wp2_with fail
          go_ret
          exact ⟨rfl, HB4.out⟩
      have hw : WP wr w.heap.size b false (lw ++ []) wr := ⟨by rw [List.append_nil]; exact H.out.wr, Below.refl _ _, KB.refl _ _⟩
      have k1 : (f.kind == 1) = false := by simp; omega
      have k2 : (f.kind == 2) = false := by simp; omega
      have k3 : (f.kind == 3) = false := by simp; omega
      have k4 : (f.kind == 4) = false := by simp; omega
      obtain ⟨hb3, hwr, ho3, hs3⟩ := H.out.call hw
      have HB3 := Lib.hid hb3
      have HW3 := Lib.hid hwr
      have HO3 := Lib.hid ho3
      have HY := Lib.hid (wbytes_any _ _ _ wr hwr (by rw [List.length_append, List.length_nil]; have := HLEN.out; omega))
      clear hw hb3 hwr ho3 hs3 
      go_wp2_with fail
      with_reducible refine HY.out.mono ?_
      rintro e w4 ⟨v4, rfl, ho4, hb4⟩
      have HO4 := Lib.hid ho4
      have HB4 := Lib.hid hb4
      obtain ⟨A4, c4, rfl, hlc4, hcm4, hs4⟩ := own_sl ho4
      obtain ⟨A3, c3, hv3, _, _, hs3⟩ := own_sl (HO3.out.old hb4)
      rw [hv3] at HO3 ⊢
      have hsame := same_take hs4 hs3 (c := c4) (c' := c3)
      rw [List.length_append, List.length_nil] at hlc4 ⊢
      obtain ⟨ln, hln⟩ : ∃ n, lw.length = n := ⟨_, rfl⟩
      have hln2 : ln ≤ 200000 := by have := HLEN.out; omega
      rw [hln] at hsame hlc4 ⊢
      unfold maxLen at hcm4
      have HSM := Lib.hid hsame
      clear ho4 hb4 hs4 hs3 hsame HY hv3
      have e7 : (((ln + 0 : Nat) : Int) != (ln : Int) + 0) = false := by simp
      go_wp2_with fail
      with_reducible refine HSM.out.mono ?_
      rintro e w5 ⟨rfl, hb5⟩
      have H5 := Lib.hid (WI.step2 (l := l) HB3.out HW3.out HO4.out HB4.out hb5 (m := 0) (by rw [List.length_nil]) HLEN.out (by omega))
      clear hb5 HSM
      go_wp2_with fail
      go_roundw
      case rel =>
        have h5 := H5.out
        rw [List.length_append, List.length_nil, hln] at h5
        exact ⟨k + 1, _, by omega, by omega, by go_num, h5⟩
      case measure => simp [intOf]; try omega
    · have fin : ∀ W, Below w.heap.size w W → True := fun _ _ => trivial
      by_cases h1 : k < l.length
      · have e2 : decide ((k : Int) < (l.length : Int)) = true := by simp; omega
        have e3 : decide ((k : Int) < 40) = false := by simp; omega
        go_wp2_with fail
        go_ret
        exact ⟨rfl, H.out.bel⟩
      · have e2 : decide ((k : Int) < (l.length : Int)) = false := by simp; omega
        go_wp2_with fail
        go_ret
        exact ⟨rfl, H.out.bel⟩
end Go.Proofs.YtclnpglnomfjkaaDoor

/- What this text proves: the contract of the law WireWrites. The conditions are how the argument lies in memory. -/
import Derived.Test.YtclnpglnomfjkaaDoorWireAlive
import Derived.Test.YtclnpglnomfjkaaDoorWireField
namespace Go.Proofs.YtclnpglnomfjkaaDoor
open Go.RowKit Go.Shelf
set_option linter.unusedVariables false
set_option linter.unusedSimpArgs false

/-- What is known behind k fields. -/
structure WI (w W : World) (b : Nat) (l : List Fd) (k : Nat) (v : Value) (bad : Bool) (lw : List UInt8) : Prop where
  bel : Below w.heap.size w W
  wr : Wr W w.heap.size b bad lw
  own : Own8 W w.heap.size v lw
  sep : Sep W b v
  len : lw.length ≤ 5000 * k
theorem WI.call {w W W' : World} {b : Nat} {l : List Fd} {k : Nat} {v : Value} {bad bad' : Bool} {lw lx : List UInt8} (h : WI w W b l k v bad lw) (hw : WP W w.heap.size b bad' lx W') : Below w.heap.size w W' ∧ Wr W' w.heap.size b bad' lx ∧ Own8 W' w.heap.size v lw ∧ Sep W' b v := by
  obtain ⟨h1, h2, h3⟩ := hw
  obtain ⟨h4, h5⟩ := h.own.kb h.sep h3
  exact ⟨h.bel.trans h2, h1, h4, h5⟩

theorem whi_hash : (Tryd.prog.info? 29).map (·.size) = some 32 := by kernel_rfl
theorem FdAt.below {w w' : World} {B b off : Nat} {f : Fd} (h : FdAt w b off f) (hb : Below B w w') (hB : b < B) : FdAt w' b off f :=
  ⟨(hb.cell (p := ⟨b, off, none⟩) hB).trans h.kind, (hb.cell (p := ⟨b, off + 1, none⟩) hB).trans h.n, (hb.cell (p := ⟨b, off + 2, none⟩) hB).trans h.wd, rangeAt_below h.h hb hB, (hb.cell (p := ⟨b, off + 35, none⟩) hB).trans h.s⟩
theorem Fd.good.len {f : Fd} (h : f.good) : f.h.length = 32 := h.1
theorem wd_nat {f : Fd} (h : f.good) : f.wd = (f.wd.toNat : Int) ∧ f.wd.toNat < 18446744073709551616 := by
  have := bounds_u64 h.2.2.1
  omega
theorem WI.step {w W3 W4 W5 : World} {b : Nat} {l : List Fd} {k m : Nat} {v v5 : Value} {bad : Bool} {lw lx : List UInt8} (hb3 : Below w.heap.size w W3) (hw : Wr W3 w.heap.size b bad (lw ++ lx)) (ho : Own8 W3 w.heap.size v lw) (hs : Sep W3 b v) (h4 : Below W3.heap.size W3 W4)
    (hm : lx.length = m) (h5 : W5.ownsRow w.heap.size 5 1 v5 (lw.length + m) (bts lw ++ bts lx)) (hg : W4.grownBy W5 v.ownBlock) (hv : v5.ownBlock = v.ownBlock ∨ v5.ownBlock = some W4.heap.size) (hlen : lw.length ≤ 5000 * k) (hx : m ≤ 5000) : WI w W5 b l (k + 1) v5 bad (lw ++ lx) := by
  have hlt := hw.ge.2
  obtain ⟨h6, h7⟩ := (hw.old h4).grown (hs.old hlt h4) hg hv
  refine ⟨(hb3.trans (h4.mono hb3.size)).grown hg (Nat.le_trans hb3.size h4.size) (fun k hk => (own_cells ho hk).1), h6, ?_, h7, by rw [List.length_append]; omega⟩
  unfold Own8
  rw [List.length_append, hm, bts_app]
  exact h5

set_option maxRecDepth 100000 in
set_option maxHeartbeats 8000000 in
theorem writes_any (A : Option Addr) (l : List Fd) (c : Nat) (w : World) (hl : l.length ≤ c) (hcm : c ≤ maxLen) (hA : Sl w w.heap.size 36 A l.length (l.flatMap Fd.cells)) (hf : ∀ i ∈ l, i.good) :
    Calls Tryd.prog 3 #[.slice A l.length c] w fun e w' => e = .returned (.bool true) ∧ Below w.heap.size w w' := by
  have HS := Lib.hid hA
  have HF := Lib.hid hf
  unfold maxLen at hcm
  clear hA hf
  go_enter Tryd.func3, Tryd.ntmps3
  go_wp2_with fail
  with_reducible refine (newWriter_any w.heap.size w (Nat.le_refl _)).mono ?_
  rintro e w1 ⟨rfl, hw, hb⟩
  obtain ⟨b, hbn⟩ : ∃ b, w.heap.size = b := ⟨_, rfl⟩
  have HW := Lib.hid hw
  have HB := Lib.hid hb
  rw [hbn] at HW
  clear hw hb
  rw [hbn]
  go_wp2_with fail
  with_reducible refine (alive_any w1).mono ?_
  rintro e w2 ⟨rfl, hb⟩
  have HI := Lib.hid (show WI w w2 b l 0 (.slice none 0 0) false [] from ⟨HB.out.trans (hb.mono HB.out.size), by rw [hbn]; exact HW.out.old hb, own8_nil _ _, sep_nil _ _, by simp⟩)
  have HBN := Lib.hid hbn
  clear hb HB HW hbn
  go_wp2_with fail
  obtain ⟨i0, hi0, hz0, hz1, hz2⟩ := info_parts wu8_info
  go_loopw [4, 5, 6] (fun v bd i wr => ∃ (k : Nat) (bad : Bool) (lw : List UInt8), k ≤ l.length ∧ k ≤ 40 ∧ i = .int .i64 k ∧ bd = .bool bad ∧ WI w wr b l k v bad lw) (fun _ _ i _ => 40 - (intOf i).toNat)
  case atStart => exact ⟨0, _, _, by omega, by omega, rfl, rfl, HI.out⟩
  case round =>
    obtain ⟨k, bad, lw, hk1, hk2, rfl, rfl, hi⟩ := hrel
    have H := Lib.hid hi
    clear hi HI
    by_cases hlt : k < l.length ∧ k < 40
    · obtain ⟨h1, h2⟩ := hlt
      have e1 : (k : Int) < (l.length : Int) := by omega
      have e2 : (k : Int) < 40 := by omega
      obtain ⟨f, hfk⟩ : ∃ f, l[k]? = some f := ⟨_, List.getElem?_eq_getElem h1⟩
      have HG := Lib.hid (HF.out f (List.mem_of_getElem? hfk))
      obtain ⟨ba, oa, rfl, hba, hfa⟩ := fd_at (HS.out.below H.out.bel) HF.out hfk
      have HG1 : Hid (f.h.length = 32) := Lib.hid HG.out.len
      have HFA := Lib.hid hfa
      have hck := hfa.kind
      have HLEN := Lib.hid H.out.len
      have hbw : Hid (w.heap.size ≤ wr.heap.size) := Lib.hid H.out.bel.size
      have HLL : Hid (lw.length ≤ 100000000) := Lib.hid (by have := H.out.len; omega)
      clear hfk hfa
      -- ROUNDS
      by_cases hk1 : f.kind = 1
      · have hk : f.kind = 1 := hk1
        have k1 : (f.kind == 1) = true := by simp; omega
        have hcn := HFA.out.n
        go_wp2_with fail
        with_reducible refine (wnumber_any w.heap.size b bad lw f.n wr H.out.wr H.out.bel.size HLL.out).mono ?_
        rintro e w3 ⟨rfl, hw⟩
        obtain ⟨hb3, hw3, ho3, hs3⟩ := H.out.call hw
        have HB3 := Lib.hid hb3
        have HW3 := Lib.hid hw3
        have HO3 := Lib.hid ho3
        have HS3 := Lib.hid hs3
        have HF3 := Lib.hid (HFA.out.below hw.2.1 hba)
        clear hw hb3 hw3 ho3 hs3 hck hcn
        have hcn := HF3.out.n
        go_wp2_with fail
        with_reducible refine (rword_any _ (IntKind.u64.wrap f.n) (by rw [IntKind.wrap_u64]; omega) w3 (by omega : (f.n % 18446744073709551616).toNat < 18446744073709551616)).mono ?_
        rintro e w4 ⟨v4, rfl, ho4, hb4⟩
        have HB4 := Lib.hid hb4
        have OW4 : Hid (w4.ownsRow w.heap.size 5 1 u4 lw.length (bts lw)) := Lib.hid (HO3.out.old hb4)
        obtain ⟨A4, c4, rfl, hlc4, hcm4, hs4⟩ := own_sl ho4
        have S4 := Lib.hid hs4
        clear ho4 hb4 hs4
        have HSZ4 := Lib.hid (Nat.le_trans HB3.out.size HB4.out.size)
        go_wp2_with (refine wpList_append_sl w4 (by rfl) _ _ 26 (by rfl) w.heap.size 5 i0 _ 1 1 Tryd.underlying26 hi0 hz0 hz1 hz2 rfl (by omega) u4 lw.length (bts lw) (by rfl) OW4.out A4 (beB (f.n % 18446744073709551616).toNat 8).length c4 _ (by rfl) S4.out bts_one (by unfold maxLen; rw [beB_len]; have := HLEN.out; omega) (by rw [beB_len]; have := HLEN.out; omega) HSZ4.out ?_; intro v5 w5 ho_ hg_ hv_; have H5 := Lib.hid (WI.step (l := l) (k := k) HB3.out HW3.out HO3.out HS3.out HB4.out rfl ho_ hg_ hv_ HLEN.out (by rw [beB_len]; omega)); clear ho_ hg_ hv_)
        go_roundw
        case rel => exact ⟨k + 1, _, _, by omega, by omega, by go_num, rfl, H5.out⟩
        case measure => simp [intOf]; try omega
      by_cases hk2 : f.kind = 2
      · have hk : f.kind = 2 := hk2
        have k1 : (f.kind == 1) = false := by simp; omega
        have k2 : (f.kind == 2) = true := by simp; omega
        have hcn := HFA.out.wd
        go_wp2_with fail
        with_reducible refine (wword_any w.heap.size b bad lw f.wd.toNat f.wd (wd_nat HG.out).1 wr H.out.wr H.out.bel.size (wd_nat HG.out).2 HLL.out).mono ?_
        rintro e w3 ⟨rfl, hw⟩
        obtain ⟨hb3, hw3, ho3, hs3⟩ := H.out.call hw
        have HB3 := Lib.hid hb3
        have HW3 := Lib.hid hw3
        have HO3 := Lib.hid ho3
        have HS3 := Lib.hid hs3
        have HF3 := Lib.hid (HFA.out.below hw.2.1 hba)
        clear hw hb3 hw3 ho3 hs3 hck hcn
        have hcn := HF3.out.wd
        go_wp2_with fail
        with_reducible refine (rword_any f.wd.toNat f.wd (wd_nat HG.out).1 w3 (wd_nat HG.out).2).mono ?_
        rintro e w4 ⟨v4, rfl, ho4, hb4⟩
        have HB4 := Lib.hid hb4
        have OW4 : Hid (w4.ownsRow w.heap.size 5 1 u4 lw.length (bts lw)) := Lib.hid (HO3.out.old hb4)
        obtain ⟨A4, c4, rfl, hlc4, hcm4, hs4⟩ := own_sl ho4
        have S4 := Lib.hid hs4
        clear ho4 hb4 hs4
        have HSZ4 := Lib.hid (Nat.le_trans HB3.out.size HB4.out.size)
        go_wp2_with (refine wpList_append_sl w4 (by rfl) _ _ 26 (by rfl) w.heap.size 5 i0 _ 1 1 Tryd.underlying26 hi0 hz0 hz1 hz2 rfl (by omega) u4 lw.length (bts lw) (by rfl) OW4.out A4 (beB f.wd.toNat 8).length c4 _ (by rfl) S4.out bts_one (by unfold maxLen; rw [beB_len]; have := HLEN.out; omega) (by rw [beB_len]; have := HLEN.out; omega) HSZ4.out ?_; intro v5 w5 ho_ hg_ hv_; have H5 := Lib.hid (WI.step (l := l) (k := k) HB3.out HW3.out HO3.out HS3.out HB4.out rfl ho_ hg_ hv_ HLEN.out (by rw [beB_len]; omega)); clear ho_ hg_ hv_)
        go_roundw
        case rel => exact ⟨k + 1, _, _, by omega, by omega, by go_num, rfl, H5.out⟩
        case measure => simp [intOf]; try omega
      by_cases hk3 : f.kind = 3
      · have hk : f.kind = 3 := hk3
        have k1 : (f.kind == 1) = false := by simp; omega
        have k2 : (f.kind == 2) = false := by simp; omega
        have k3 : (f.kind == 3) = true := by simp; omega
        go_wp2_with (refine wpList_val (by rfl) (run_load_seg 29 _ (by with_reducible rfl) _ _ (by rfl) _ HFA.out.h 32 (by rw [bts_len]; exact HG1.out) _ Tryd.underlying29 (by rfl) whi_hash) ?_)
        with_reducible refine (whash_any w.heap.size b bad lw f.h wr H.out.wr H.out.bel.size HLL.out HG1.out).mono ?_
        rintro e w3 ⟨rfl, hw⟩
        obtain ⟨hb3, hw3, ho3, hs3⟩ := H.out.call hw
        have HB3 := Lib.hid hb3
        have HW3 := Lib.hid hw3
        have HO3 := Lib.hid ho3
        have HS3 := Lib.hid hs3
        have HF3 := Lib.hid (HFA.out.below hw.2.1 hba)
        clear hw hb3 hw3 ho3 hs3 hck

        go_wp2_with (refine wpList_val (by rfl) (run_load_seg 29 _ (by with_reducible rfl) _ _ (by rfl) _ HF3.out.h 32 (by rw [bts_len]; exact HG1.out) _ Tryd.underlying29 (by rfl) whi_hash) ?_)
        with_reducible refine (rhash_any f.h HG1.out w3).mono ?_
        rintro e w4 ⟨v4, rfl, ho4, hb4⟩
        have HB4 := Lib.hid hb4
        have OW4 : Hid (w4.ownsRow w.heap.size 5 1 u4 lw.length (bts lw)) := Lib.hid (HO3.out.old hb4)
        obtain ⟨A4, c4, rfl, hlc4, hcm4, hs4⟩ := own_sl ho4
        have S4 := Lib.hid hs4
        clear ho4 hb4 hs4
        have HSZ4 := Lib.hid (Nat.le_trans HB3.out.size HB4.out.size)
        go_wp2_with (refine wpList_append_sl w4 (by rfl) _ _ 26 (by rfl) w.heap.size 5 i0 _ 1 1 Tryd.underlying26 hi0 hz0 hz1 hz2 rfl (by omega) u4 lw.length (bts lw) (by rfl) OW4.out A4 f.h.length c4 _ (by rfl) S4.out bts_one (by unfold maxLen; rw [HG1.out]; have := HLEN.out; omega) (by rw [HG1.out]; have := HLEN.out; omega) HSZ4.out ?_; intro v5 w5 ho_ hg_ hv_; have H5 := Lib.hid (WI.step (l := l) (k := k) HB3.out HW3.out HO3.out HS3.out HB4.out rfl ho_ hg_ hv_ HLEN.out (by rw [HG1.out]; omega)); clear ho_ hg_ hv_)
        go_roundw
        case rel => exact ⟨k + 1, _, _, by omega, by omega, by go_num, rfl, H5.out⟩
        case measure => simp [intOf]; try omega
      by_cases hk4 : f.kind = 4
      · by_cases hsz : f.s.size ≤ 4096
        · have hk : f.kind = 4 := hk4
          have k1 : (f.kind == 1) = false := by simp; omega
          have k2 : (f.kind == 2) = false := by simp; omega
          have k3 : (f.kind == 3) = false := by simp; omega
          have k4 : (f.kind == 4) = true := by simp; omega
          have hcs := HFA.out.s
          have hsz2 : (f.s.size : Int) ≤ 4096 := by omega
          have hT := wtext_any w.heap.size b bad lw f.s wr H.out.wr H.out.bel.size HLL.out hsz
          rw [List.append_assoc] at hT
          have hR := rtext_any f.s hsz
          have hL4 : (beB f.s.size 2 ++ f.s.data.toList).length = 2 + f.s.size := by rw [List.length_append, beB_len]; rfl
          obtain ⟨lx, hlx⟩ : ∃ lx, beB f.s.size 2 ++ f.s.data.toList = lx := ⟨_, rfl⟩
          rw [hlx] at hT hR hL4
          have HT := Lib.hid hT
          have HR := Lib.hid hR
          have HL4 := Lib.hid hL4
          clear hT hR hL4 hlx
          go_wp2_with fail
          with_reducible refine HT.out.mono ?_
          rintro e w3 ⟨rfl, hw⟩
          obtain ⟨hb3, hw3, ho3, hs3⟩ := H.out.call hw
          have HB3 := Lib.hid hb3
          have HW3 := Lib.hid hw3
          have HO3 := Lib.hid ho3
          have HS3 := Lib.hid hs3
          have HF3 := Lib.hid (HFA.out.below hw.2.1 hba)
          clear hw hb3 hw3 ho3 hs3 hck hcs
          have hcs := HF3.out.s
          go_wp2_with fail
          with_reducible refine (HR.out w3).mono ?_
          rintro e w4 ⟨v4, rfl, ho4, hb4⟩
          have HB4 := Lib.hid hb4
          have OW4 : Hid (w4.ownsRow w.heap.size 5 1 u4 lw.length (bts lw)) := Lib.hid (HO3.out.old hb4)
          obtain ⟨A4, c4, rfl, hlc4, hcm4, hs4⟩ := own_sl ho4
          have S4 := Lib.hid hs4
          clear ho4 hb4 hs4
          have HSZ4 := Lib.hid (Nat.le_trans HB3.out.size HB4.out.size)
          go_wp2_with (refine wpList_append_sl w4 (by rfl) _ _ 26 (by rfl) w.heap.size 5 i0 _ 1 1 Tryd.underlying26 hi0 hz0 hz1 hz2 rfl (by omega) u4 lw.length (bts lw) (by rfl) OW4.out A4 lx.length c4 _ (by rfl) S4.out bts_one (by unfold maxLen; rw [HL4.out]; have := HLEN.out; omega) (by rw [HL4.out]; have := HLEN.out; omega) HSZ4.out ?_; intro v5 w5 ho_ hg_ hv_; have H5 := Lib.hid (WI.step (l := l) (k := k) HB3.out HW3.out HO3.out HS3.out HB4.out rfl ho_ hg_ hv_ HLEN.out (by rw [HL4.out]; omega)); clear ho_ hg_ hv_)
          go_roundw
          case rel => exact ⟨k + 1, _, _, by omega, by omega, by go_num, rfl, H5.out⟩
          case measure => simp [intOf]; try omega
        · have hk : f.kind = 4 := hk4
          have k1 : (f.kind == 1) = false := by simp; omega
          have k2 : (f.kind == 2) = false := by simp; omega
          have k3 : (f.kind == 3) = false := by simp; omega
          have k4 : (f.kind == 4) = true := by simp; omega
          have hcs := HFA.out.s
          have hsz2 : decide (4096 < (f.s.size : Int)) = true := by simp; omega
          have HT := Lib.hid (wtext_long w.heap.size b bad lw f.s wr H.out.wr (by omega))
          go_wp2_with fail
          with_reducible refine HT.out.mono ?_
          rintro e w3 ⟨rfl, hw⟩
          obtain ⟨hb3, hw3, ho3, hs3⟩ := H.out.call hw
          have H5 : Hid (WI w w3 b l (k + 1) u4 true lw) := Lib.hid ⟨hb3, hw3, ho3, hs3, by have := HLEN.out; omega⟩
          have HF3 := Lib.hid (HFA.out.below hw.2.1 hba)
          clear hw hb3 hw3 ho3 hs3 hck hcs
          have hcs := HF3.out.s
          go_wp2_with fail
          go_roundw
          case rel => exact ⟨k + 1, _, _, by omega, by omega, by go_num, rfl, H5.out⟩
          case measure => simp [intOf]; try omega
      · have k1 : (f.kind == 1) = false := by simp; omega
        have k2 : (f.kind == 2) = false := by simp; omega
        have k3 : (f.kind == 3) = false := by simp; omega
        have k4 : (f.kind == 4) = false := by simp; omega
        have H5 : Hid (WI w wr b l (k + 1) u4 bad lw) := Lib.hid ⟨H.out.bel, H.out.wr, H.out.own, H.out.sep, by have := HLEN.out; omega⟩
        go_wp2_with fail
        go_roundw
        case rel => exact ⟨k + 1, _, _, by omega, by omega, by go_num, rfl, H5.out⟩
        case measure => simp [intOf]; try omega
      -- END ROUNDS
    · have e1 : (decide ((k : Int) < (l.length : Int)) && decide ((k : Int) < 40)) = false := by
        rw [Bool.and_eq_false_iff, decide_eq_false_iff_not, decide_eq_false_iff_not]; omega
      have HLL : lw.length ≤ 100000000 := by have := H.out.len; omega
      cases bad with
      | true =>
        have HY := Lib.hid (wbytes_bad _ _ _ wr H.out.wr)
        by_cases h1 : k < l.length
        · have e2 : decide ((k : Int) < (l.length : Int)) = true := by simp; omega
          have e3 : decide ((k : Int) < 40) = false := by simp; omega
          clear e1
          go_wp2_with fail
          with_reducible refine HY.out.mono ?_
          rintro e w3 ⟨rfl, hb⟩
          have HB3 := Lib.hid (H.out.bel.trans (hb.mono H.out.bel.size))
          clear hb HY
          go_wp2_with fail
          go_ret
          exact ⟨rfl, HB3.out⟩
        · have e2 : decide ((k : Int) < (l.length : Int)) = false := by simp; omega
          clear e1
          go_wp2_with fail
          with_reducible refine HY.out.mono ?_
          rintro e w3 ⟨rfl, hb⟩
          have HB3 := Lib.hid (H.out.bel.trans (hb.mono H.out.bel.size))
          clear hb HY
          go_wp2_with fail
          go_ret
          exact ⟨rfl, HB3.out⟩
      | false =>
        have HY := Lib.hid (wbytes_any _ _ _ wr H.out.wr HLL)
        have fin : ∀ w3 v3, Own8 w3 wr.heap.size v3 lw → Below wr.heap.size wr w3 → Calls Tryd.prog 19 #[v3, u4] w3 fun e w' => e = .returned (.bool true) ∧ Below w.heap.size w w' := by
          intro w3 v3 ho hb
          obtain ⟨A3, c3, rfl, _, _, hs3⟩ := own_sl ho
          obtain ⟨A5, c5, hv, _, _, hs5⟩ := own_sl (H.out.own.old hb)
          rw [hv]
          refine (same02_any A3 A5 lw lw c3 c5 w3 hs3 hs5).mono ?_
          rintro e w' ⟨rfl, hb'⟩
          rw [decide_eq_true rfl]
          have h1 := H.out.bel.trans (hb.mono H.out.bel.size)
          exact ⟨rfl, h1.trans (hb'.mono h1.size)⟩
        have FIN := Lib.hid fin
        clear fin
        by_cases h1 : k < l.length
        · have e2 : decide ((k : Int) < (l.length : Int)) = true := by simp; omega
          have e3 : decide ((k : Int) < 40) = false := by simp; omega
          clear e1
          go_wp2_with fail
          with_reducible refine HY.out.mono ?_
          rintro e w3 ⟨v3, rfl, ho, hb⟩
          have FI := Lib.hid (FIN.out w3 v3 ho hb)
          clear ho hb HY FIN
          go_wp2_with fail
          with_reducible refine FI.out.mono ?_
          rintro e w4 ⟨rfl, hb⟩
          have HB4 := Lib.hid hb
          clear hb FI
          go_wp2_with fail
          go_ret
          exact ⟨rfl, HB4.out⟩
        · have e2 : decide ((k : Int) < (l.length : Int)) = false := by simp; omega
          clear e1
          go_wp2_with fail
          with_reducible refine HY.out.mono ?_
          rintro e w3 ⟨v3, rfl, ho, hb⟩
          have FI := Lib.hid (FIN.out w3 v3 ho hb)
          clear ho hb HY FIN
          go_wp2_with fail
          with_reducible refine FI.out.mono ?_
          rintro e w4 ⟨rfl, hb⟩
          have HB4 := Lib.hid hb
          clear hb FI
          go_wp2_with fail
          go_ret
          exact ⟨rfl, HB4.out⟩
end Go.Proofs.YtclnpglnomfjkaaDoor

/- What this text proves: the contract of the law WireBroken. The conditions are how the arguments lie in memory. -/
import Derived.Test.YtclnpglnomfjkaaDoorWireNil
namespace Go.Proofs.YtclnpglnomfjkaaDoor
open Go.RowKit Go.Shelf
set_option linter.unusedVariables false
set_option linter.unusedSimpArgs false

/-- What is left behind k words. -/
def sw (l : List UInt8) (k : Nat) : Option (List UInt8) := if 8 * k ≤ l.length then some (l.drop (8 * k)) else none
theorem sw_zero (l : List UInt8) : sw l 0 = some l := by simp [sw]
theorem sw_step (l : List UInt8) (k : Nat) : (rstep wordR (.int .u64 0) (sw l k)).2 = sw l (k + 1) := by
  unfold sw
  by_cases h : 8 * k ≤ l.length
  · rw [if_pos h]
    by_cases h2 : 8 * (k + 1) ≤ l.length
    · rw [if_pos h2]
      have e : wordR (l.drop (8 * k)) = some (.int .u64 (beN ((l.drop (8 * k)).take 8) : Nat), (l.drop (8 * k)).drop 8) := if_pos (by rw [List.length_drop]; omega)
      simp only [rstep, e, List.drop_drop]
      congr 2
    · rw [if_neg h2]
      have e : wordR (l.drop (8 * k)) = none := if_neg (by rw [List.length_drop]; omega)
      simp only [rstep, e]
  · rw [if_neg h, if_neg (by omega)]
    rfl
theorem sw_end (l : List UInt8) (k : Nat) (h : l.length < 8 * k) : sw l k = none := if_neg (by omega)

/-- The reader is broken. -/
structure BI (w W : World) (g : Nat) : Prop where
  bel : Below w.heap.size w W
  rd : RdS W g none
  ge : w.heap.size ≤ g
theorem BI.step {w W W' : World} {g : Nat} {v : Value} {e : Ending} (h : BI w W g) (hm : MP W g (v, none) e W') : e = .returned v ∧ BI w W' g :=
  ⟨hm.1, h.bel.grown hm.2.2 h.bel.size (fun k e => by cases e; exact h.ge), hm.2.1, h.ge⟩
theorem BI.number {w W : World} {g : Nat} (h : BI w W g) : Calls Tryd.prog 21 #[.pointer (some ⟨g, 0, none⟩)] W fun e W' => e = .returned (.int .i64 0) ∧ BI w W' g := (mNumber_any g none W h.rd).mono fun e W' hm => h.step hm
theorem BI.word {w W : World} {g : Nat} (h : BI w W g) : Calls Tryd.prog 23 #[.pointer (some ⟨g, 0, none⟩)] W fun e W' => e = .returned (.int .u64 0) ∧ BI w W' g := (mWord_any g none W h.rd).mono fun e W' hm => h.step hm
theorem BI.hash {w W : World} {g : Nat} (h : BI w W g) : Calls Tryd.prog 25 #[.pointer (some ⟨g, 0, none⟩)] W fun e W' => e = .returned (.agg (bts zB).toArray) ∧ BI w W' g := (mHash_any g none W h.rd).mono fun e W' hm => h.step hm
theorem BI.text {w W : World} {g : Nat} (h : BI w W g) : Calls Tryd.prog 27 #[.pointer (some ⟨g, 0, none⟩)] W fun e W' => e = .returned (.string ⟨#[]⟩) ∧ BI w W' g := (mText_any g none W h.rd).mono fun e W' hm => h.step hm
theorem BI.count {w W : World} {g : Nat} (h : BI w W g) (m : Int) : Calls Tryd.prog 29 #[.pointer (some ⟨g, 0, none⟩), .int .i64 m] W fun e W' => e = .returned (.int .i64 0) ∧ BI w W' g := (mCount_any g m none W h.rd).mono fun e W' hm => h.step hm
theorem BI.end_ {w W : World} {g : Nat} (h : BI w W g) : Calls Tryd.prog 31 #[.pointer (some ⟨g, 0, none⟩)] W fun e W' => e = .returned (.int .i64 21) ∧ BI w W' g := (mEnd_any g none W h.rd).mono fun e W' hm => ⟨hm.1, h.bel.trans (hm.2.mono h.bel.size), h.rd.old hm.2, h.ge⟩

theorem broken_long (A A' : Option Addr) (n n' c c' : Nat) (w : World) (h : 20000 < n) :
    Calls Tryd.prog 6 #[.slice A n c, .slice A' n' c'] w fun e w' => e = .returned (.bool true) ∧ Below w.heap.size w w' := by
  have e1 : decide (20000 < (n : Int)) = true := by simp; omega
  clear h
  go_enter Tryd.func6, Tryd.ntmps6
  go_wp2_with fail
  refine (alive_any _).mono ?_
  rintro e w1 ⟨rfl, hb1⟩
  go_wp2_with fail
  go_ret
  exact ⟨rfl, hb1⟩

set_option maxRecDepth 100000 in
set_option maxHeartbeats 8000000 in
theorem broken_in (A A' : Option Addr) (lb : List UInt8) (n : Nat) (hn : lb.length = n) (l : List Fd) (c c' : Nat) (w : World) (hb : n ≤ 20000) (hA : Sl w w.heap.size 1 A n (bts lb)) (hl : l.length ≤ c') (hcm : c' ≤ maxLen) (hA' : Sl w w.heap.size 36 A' l.length (l.flatMap Fd.cells)) (hf : ∀ i ∈ l, i.good) :
    Calls Tryd.prog 6 #[.slice A n c, .slice A' l.length c'] w fun e w' => e = .returned (.bool true) ∧ Below w.heap.size w w' := by
  have e1 : decide (20000 < (n : Int)) = false := by simp; omega
  have HS := Lib.hid hA'
  have HF := Lib.hid hf
  have HN := Lib.hid hn
  have HR := Lib.hid (newReader_any A n c lb hn w (by omega) hA)
  unfold maxLen at hcm
  clear hA hA' hf hn
  go_enter Tryd.func6, Tryd.ntmps6
  go_wp2_with fail
  with_reducible refine HR.out.mono ?_
  rintro e w1 ⟨g, rfl, hg, hr, hbl⟩
  have HG := Lib.hid hg
  have HB1 := Lib.hid hbl
  have HR1 := Lib.hid hr
  clear hg hr hbl HR e1
  go_wp2_with fail
  with_reducible refine (alive_any w1).mono ?_
  rintro e w2 ⟨rfl, hb2⟩
  have HB2 := Lib.hid (HB1.out.trans (hb2.mono HB1.out.size))
  have HR2 := Lib.hid (HR1.out.old hb2)
  clear hb2 HR1 HB1
  obtain ⟨q, hq⟩ : ∃ q, n / 8 = q := ⟨_, rfl⟩
  have hdiv : (n : Int) / 8 = (q : Int) := by omega
  have hq2 : q ≤ 2500 := by omega
  have hq3 : n < 8 * (q + 2) := by omega
  go_wp2_with fail
  go_loopw [6] (fun i wr => ∃ (k : Nat), k ≤ q + 2 ∧ i = .int .i64 k ∧ RdS wr g (sw lb k) ∧ Below w.heap.size w wr) (fun i _ => q + 2 - (intOf i).toNat)
  case atStart => exact ⟨0, by omega, rfl, by rw [sw_zero]; exact HR2.out, HB2.out⟩
  case round =>
    obtain ⟨k, hk, rfl, hr, hb⟩ := hrel
    have HK := Lib.hid hr
    have HB := Lib.hid hb
    clear hr hb HR2 HB2
    by_cases hlt : k < q + 2
    · have e1 : (k : Int) < (q : Int) + 2 := by omega
      have HW := Lib.hid (mWord_any g (sw lb k) wr HK.out)
      go_wp2_with fail
      with_reducible refine HW.out.mono ?_
      rintro e w3 ⟨rfl, hr3, hg3⟩
      rw [sw_step] at hr3
      have HR3 := Lib.hid hr3
      have HB3 := Lib.hid (HB.out.grown hg3 HB.out.size (fun k e => by cases e; exact HG.out))
      clear hr3 hg3 HW HK HB
      go_wp2_with fail
      go_roundw
      case rel => exact ⟨k + 1, by omega, by go_num, HR3.out, HB3.out⟩
      case measure => simp [intOf]; try omega
    · obtain rfl : k = q + 2 := by omega
      have hs : sw lb (q + 2) = none := sw_end lb _ (by rw [HN.out]; omega)
      rw [hs] at HK
      have HW := Lib.hid (mHash_any g none wr HK.out)
      have e1 : decide (((q + 2 : Nat) : Int) < (q : Int) + 2) = false := by simp
      clear hlt hs
      go_wp2_with fail
      with_reducible refine HW.out.mono ?_
      rintro e w3 ⟨rfl, hr3, hg3⟩
      have HI : Hid (BI w w3 g) := Lib.hid ⟨HB.out.grown hg3 HB.out.size (fun k e => by cases e; exact HG.out), hr3, HG.out⟩
      clear hr3 hg3 HW HK HB e1
      go_wp2_with fail
      go_loopw [7] (fun i wr => ∃ (k : Nat), k ≤ l.length ∧ k ≤ 40 ∧ i = .int .i64 k ∧ BI w wr g) (fun i _ => 40 - (intOf i).toNat)
      case atStart => exact ⟨0, by omega, by omega, rfl, HI.out⟩
      case round =>
        obtain ⟨k, hk1, hk2, rfl, hi⟩ := hrel
        have H0 := Lib.hid hi
        clear hi HI
        by_cases hlt : k < l.length ∧ k < 40
        · obtain ⟨h1, h2⟩ := hlt
          have e1 : (k : Int) < (l.length : Int) := by omega
          have e2 : (k : Int) < 40 := by omega
          obtain ⟨f, hfk⟩ : ∃ f, l[k]? = some f := ⟨_, List.getElem?_eq_getElem h1⟩
          go_wp2_with fail
          with_reducible refine H0.out.number.mono ?_
          rintro e wa ⟨rfl, hi⟩
          have H1 := Lib.hid hi
          clear hi H0
          go_wp2_with fail
          with_reducible refine H1.out.word.mono ?_
          rintro e wb ⟨rfl, hi⟩
          have H2 := Lib.hid hi
          clear hi H1
          go_wp2_with fail
          with_reducible refine H2.out.hash.mono ?_
          rintro e wc ⟨rfl, hi⟩
          have H3 := Lib.hid hi
          clear hi H2
          go_wp2_with (first
            | (refine wpList_val (by rfl) (run_build_at 29 _ (by with_reducible rfl) (bts zB) (by exact made_hash)) ?_)
            | (refine wpList_val (by rfl) (run_bytes_neq 29 5 _ _ _ (by with_reducible rfl) 32 Tryd.underlying29 Tryd.underlying5 hsz8 hm_hash _ _ (by rfl) (by rfl) zB_len zB_len) ?_))
          with_reducible refine H3.out.text.mono ?_
          rintro e wd ⟨rfl, hi⟩
          have H4 := Lib.hid hi
          obtain ⟨ba, oa, rfl, hba, hfa⟩ := fd_at (HS.out.below hi.bel) HF.out hfk
          have hn := hfa.n
          clear hi H3 hfa hfk
          go_wp2_with fail
          with_reducible refine (H4.out.count _).mono ?_
          rintro e we ⟨rfl, hi⟩
          have H5 := Lib.hid hi
          clear hi H4 hn
          go_wp2_with fail
          with_reducible refine H5.out.end_.mono ?_
          rintro e wf ⟨rfl, hi⟩
          have H6 := Lib.hid hi
          clear hi H5
          go_wp2_with fail
          go_roundw
          case rel => exact ⟨k + 1, by omega, by omega, by go_num, H6.out⟩
          case measure => simp [intOf]; try omega
        · by_cases h1 : k < l.length
          · have e2 : decide ((k : Int) < (l.length : Int)) = true := by simp; omega
            have e3 : decide ((k : Int) < 40) = false := by simp; omega
            go_wp2_with fail
            with_reducible refine H0.out.end_.mono ?_
            rintro e wf ⟨rfl, hi⟩
            have H6 := Lib.hid hi
            clear hi H0
            go_wp2_with fail
            go_ret
            exact ⟨rfl, H6.out.bel⟩
          · have e2 : decide ((k : Int) < (l.length : Int)) = false := by simp; omega
            go_wp2_with fail
            with_reducible refine H0.out.end_.mono ?_
            rintro e wf ⟨rfl, hi⟩
            have H6 := Lib.hid hi
            clear hi H0
            go_wp2_with fail
            go_ret
            exact ⟨rfl, H6.out.bel⟩
theorem broken_any (A : Option Addr) (lb : List UInt8) (c : Nat) (w : World) (hlc : lb.length ≤ c) (hc : c ≤ maxLen) (hA : Sl w w.heap.size 1 A lb.length (bts lb)) (A' : Option Addr) (l : List Fd) (c' : Nat) (hl : l.length ≤ c') (hcm : c' ≤ maxLen) (hA' : Sl w w.heap.size 36 A' l.length (l.flatMap Fd.cells)) (hf : ∀ i ∈ l, i.good) :
    Calls Tryd.prog 6 #[.slice A lb.length c, .slice A' l.length c'] w fun e w' => e = .returned (.bool true) ∧ Below w.heap.size w w' := by
  by_cases h : 20000 < lb.length
  · exact broken_long A A' _ _ c c' w h
  · exact broken_in A A' lb _ rfl l c c' w (by omega) hA hl hcm hA' hf
end Go.Proofs.YtclnpglnomfjkaaDoor

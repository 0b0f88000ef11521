/- What this text proves: the contract of the tape's Cut. The conditions are the contract's own premises: how a tape lies in memory. -/
import Derived.Test.YtpmmojjffjpmbaaDoorTape
namespace Go.Proofs.YtpmmojjffjpmbaaDoor
open Go.RowKit
set_option linter.unusedVariables false
set_option linter.unusedSimpArgs false

/-- Which of n a raw number speaks of. -/
def pickI (c n : Int) : Int := (if c < 0 then -(c + 1) else c) % n
theorem pickI_bd (c n : Int) (hn : 0 < n) : 0 ≤ pickI c n ∧ pickI c n < n := by
  unfold pickI
  exact ⟨Int.emod_nonneg _ (by omega), Int.emod_lt_of_pos _ hn⟩
theorem same_w {P : Program} {f : FuncId} {args : Array Value} {w : World} {v : Value} (h : Calls P f args w fun e w' => e = .returned v ∧ w = w') : Calls P f args w fun e w' => e = .returned v ∧ Below w.heap.size w w' :=
  h.mono fun _ _ ⟨he, hw⟩ => ⟨he, by subst hw; exact Below.refl _ _⟩

set_option maxHeartbeats 1000000 in
theorem round_any (c n : Int) (w : World) (hn : 0 < n) (hn2 : n ≤ 9223372036854775807) (hc : -9223372036854775808 ≤ c) (hc2 : c ≤ 9223372036854775807) :
    Calls Tryd.prog 32 #[.int .i64 c, .int .i64 n] w fun e w' => e = .returned (.int .i64 (pickI c n)) ∧ w = w' := by
  by_cases h : c < 0
  · have e1 : IntKind.i64.wrap (c + 1) = c + 1 := IntWalk.i64_in _ (by omega)
    have e2 : IntKind.i64.wrap (-(c + 1)) = -(c + 1) := IntWalk.i64_in _ (by omega)
    go_enter Tryd.func32, Tryd.ntmps32
    go_wp2
    go_ret
    exact ⟨ret_int (by rw [pickI, if_pos (by omega), ← Int.neg_tmod, Int.tmod_eq_emod_of_nonneg (by omega)]), rfl⟩
  · have e1 : 0 ≤ c := by omega
    go_enter Tryd.func32, Tryd.ntmps32
    go_wp2
    go_ret
    exact ⟨ret_int (by rw [pickI, if_neg (by omega)]), rfl⟩

/-- The step that a loss of power leaves. -/
def cutStep (f : List UInt8 × Nat) (st : List (List UInt8 × Nat)) (at_ torn : Int) : List UInt8 × Nat :=
  let s := (f :: st).getD (pickI at_ (st.length + 1)).toNat ([], 0)
  let n := s.2 + (pickI torn ((s.1.length : Int) - s.2 + 1)).toNat
  (s.1.take n, n)
theorem cutStep_ok {f : List UInt8 × Nat} {st : List (List UInt8 × Nat)} {at_ torn : Int} (hf : okStep f) (hs : ∀ s ∈ st, okStep s) : okStep (cutStep f st at_ torn) := by
  have hb := pickI_bd at_ (st.length + 1) (by omega)
  have hl : (pickI at_ (st.length + 1)).toNat < (f :: st).length := by simp; omega
  have hm : okStep ((f :: st).getD (pickI at_ (st.length + 1)).toNat ([], 0)) := by
    rw [List.getD_eq_getElem?_getD, List.getElem?_eq_getElem hl, Option.getD_some]
    rcases List.mem_cons.1 (List.getElem_mem hl) with h | h
    · rw [h]; exact hf
    · exact hs _ h
  unfold cutStep
  obtain ⟨h1, h2⟩ := hm
  obtain ⟨s, hse⟩ : ∃ s, (f :: st).getD (pickI at_ (st.length + 1)).toNat ([], 0) = s := ⟨_, rfl⟩
  rw [hse] at h1 h2
  simp only [hse]
  have hb2 := pickI_bd torn ((s.1.length : Int) - s.2 + 1) (by omega)
  exact ⟨by simp; omega, by simp; omega⟩

/-- What is behind the choice of the step: the rest of Cut, from the step's value on. -/
def CutPost (w : World) (c : List UInt8 × Nat) (e : Ending) (w' : World) : Prop :=
  ∃ p', e = .returned (.pointer (some ⟨p', 0, none⟩)) ∧ TapeAt w' p' (.slice none 0 0) c c [] ∧ Below w.heap.size w w' ∧ w.heap.size ≤ p' ∧ p' < w'.heap.size ∧
    ∃ v m, Bk w' p' 58 #[v, .int .i64 m, v, .int .i64 m, .slice none 0 0] ∧ Fr w.heap.size v

theorem cut_end {w w1 : World} {c : List UInt8 × Nat} {v : Value} {B : Nat} (hb : Below w.heap.size w w1) (hr : Rd 5 w1 v (bts c.1)) (hok : okStep c) (hB : w.heap.size ≤ B) (hbk : ∃ x y, Bk w1 B 55 #[x, y]) (hfr : Fr w.heap.size v) (m : Int) (hm : m = (c.2 : Int)) :
    CutPost w c (.returned (.pointer (some ⟨w1.heap.size, 0, none⟩))) (((w1.setCell ⟨B, 0, none⟩ v).setCell ⟨B, 1, none⟩ (.int .i64 m)).alloc (.cells #[v, .int .i64 m, v, .int .i64 m, .slice none 0 0] 58)) := by
  subst hm
  obtain ⟨x, y, hbk⟩ := hbk
  have hs : ((w1.setCell ⟨B, 0, none⟩ v).setCell ⟨B, 1, none⟩ (.int .i64 (c.2 : Int))).heap.size = w1.heap.size := by simp [World.setCell]
  have hm1 : Moves (fun k _ => k = B) w1 ((w1.setCell ⟨B, 0, none⟩ v).setCell ⟨B, 1, none⟩ (.int .i64 (c.2 : Int))) :=
    (Moves.setCell w1 ⟨B, 0, none⟩ v (fun _ _ => rfl)).trans_ (Moves.setCell _ ⟨B, 1, none⟩ (.int .i64 (c.2 : Int)) (fun _ _ => rfl)) (fun _ _ _ h => h)
  have hm2 : Moves (fun k _ => k = B) w1 (((w1.setCell ⟨B, 0, none⟩ v).setCell ⟨B, 1, none⟩ (.int .i64 (c.2 : Int))).alloc (.cells #[v, .int .i64 (c.2 : Int), v, .int .i64 (c.2 : Int), .slice none 0 0] 58)) :=
    hm1.trans_ (Moves.alloc _ _ _) (fun _ _ _ h => h)
  have hr2 := hr.moves hm2 (fun k cur _ hk e => by
    subst e
    exact Bk.ne_ hbk hk (by decide) rfl)
  have hnew := Bk.new ((w1.setCell ⟨B, 0, none⟩ v).setCell ⟨B, 1, none⟩ (.int .i64 (c.2 : Int))) 58 #[v, .int .i64 (c.2 : Int), v, .int .i64 (c.2 : Int), .slice none 0 0]
  rw [hs] at hnew
  refine ⟨w1.heap.size, rfl, ⟨⟨v, v, hnew, hr2, hr2⟩, ⟨[], World.ownsRow_nil _ _ _ _, rfl, fun i s h => by simp at h⟩, hok, hok, by simp⟩, ?_, hb.size, by simp [World.setCell], v, _, hnew, hfr⟩
  exact ((hb.setCell (p := ⟨B, 0, none⟩) hB v).setCell (p := ⟨B, 1, none⟩) hB _).alloc (by rw [hs]; exact hb.size) _

set_option maxHeartbeats 4000000 in
theorem cut_any (p : Nat) (sv : Value) (f n : List UInt8 × Nat) (st : List (List UInt8 × Nat)) (at_ torn : Int) (w : World) (h : TapeAt w p sv f n st) (hn : st.length ≤ 1000000)
    (ha : -9223372036854775808 ≤ at_ ∧ at_ ≤ 9223372036854775807) (ht : -9223372036854775808 ≤ torn ∧ torn ≤ 9223372036854775807) :
    Calls Tryd.prog 21 #[.pointer (some ⟨p, 0, none⟩), .int .i64 at_, .int .i64 torn] w (CutPost w (cutStep f st at_ torn)) := by
  obtain ⟨nb, fb, b1, b2, b3⟩ := h.bk
  obtain ⟨cs, o1, o2⟩ := h.own
  obtain ⟨AS, cS, rfl, hS1, hS2, hSs⟩ := own_sl o1
  obtain ⟨ha1, ha2⟩ := ha
  obtain ⟨ht1, ht2⟩ := ht
  have hpb := pickI_bd at_ (st.length + 1) (by omega)
  obtain ⟨a, hae⟩ : ∃ a : Nat, pickI at_ (st.length + 1) = a := ⟨(pickI at_ (st.length + 1)).toNat, by omega⟩
  have hal : a < st.length + 1 := by omega
  -- the step that is chosen, and how it lies in memory
  obtain ⟨s, hs⟩ : ∃ s, (f :: st)[a]? = some s := ⟨_, List.getElem?_eq_getElem (by simpa using hal)⟩
  have hsok : okStep s := by
    rcases List.mem_cons.1 (List.mem_of_getElem? hs) with h' | h'
    · rw [h']; exact h.okf
    · exact h.oks s h'
  have hcs : cutStep f st at_ torn = (s.1.take (s.2 + (pickI torn ((s.1.length : Int) - s.2 + 1)).toNat), s.2 + (pickI torn ((s.1.length : Int) - s.2 + 1)).toNat) := by
    unfold cutStep
    rw [hae, Int.toNat_natCast, List.getD_eq_getElem?_getD, hs, Option.getD_some]
  have hok := cutStep_ok (at_ := at_) (torn := torn) h.okf h.oks
  rw [hcs] at hok ⊢
  obtain ⟨hsl, hss⟩ := hsok
  have hb2 := pickI_bd torn ((s.1.length : Int) - s.2 + 1) (by omega)
  obtain ⟨t, hte⟩ : ∃ t : Nat, pickI torn ((s.1.length : Int) - s.2 + 1) = t := ⟨(pickI torn ((s.1.length : Int) - s.2 + 1)).toNat, by omega⟩
  rw [hte] at hok ⊢
  simp only [Int.toNat_natCast] at hok ⊢
  have htl : s.2 + t ≤ s.1.length := by omega
  have HRA := Lib.hid (fun (W : World) => round_any at_ (st.length + 1) W (by omega) (by omega) ha1 ha2)
  have HRT := Lib.hid (fun (W : World) => round_any torn ((s.1.length : Int) - s.2 + 1) W (by omega) (by omega) ht1 ht2)
  rw [hae] at HRA
  rw [hte] at HRT
  -- the chosen step's slice
  obtain ⟨sb, hsb, hcase⟩ : ∃ sb, Rd 5 w sb (bts s.1) ∧ ((a = 0 ∧ fb = sb ∧ f.2 = s.2) ∨ (0 < a ∧ ∃ b off, AS = some ⟨b, off, none⟩ ∧ w.cell? ⟨b, off + (a - 1) * 2, none⟩ = some sb ∧ w.cell? ⟨b, off + (a - 1) * 2 + 1, none⟩ = some (.int .i64 (s.2 : Int)))) := by
    rcases Nat.eq_zero_or_pos a with h0 | h0
    · subst h0
      simp at hs
      subst hs
      exact ⟨fb, b3, .inl ⟨rfl, rfl, rfl⟩⟩
    · obtain ⟨k, rfl⟩ : ∃ k, a = k + 1 := ⟨a - 1, by omega⟩
      have hs' : st[k]? = some s := by simpa using hs
      obtain ⟨v, x1, x2, x3⟩ := o2.2 k s hs'
      obtain ⟨b, off, hA, _, hc⟩ := hSs.at_ (by omega)
      exact ⟨v, x3, .inr ⟨h0, b, off, hA, hc _ _ x1, by rw [Nat.add_assoc]; exact hc _ _ x2⟩⟩
  obtain ⟨A, c, rfl, hc1, hc2, _⟩ := hsb.sl
  simp only [bts_len] at hc1 hcase hsb
  obtain ⟨A', c', hA', hbt⟩ := hsb.take (k := s.2 + t) (by rw [bts_len]; exact htl)
  injection hA' with hA1 hA0 hA2
  subst hA1 hA2
  clear hA0
  rw [bts_take] at hbt
  have hclone : ∀ W : World, Below w.heap.size w W → Calls Tryd.prog 29 #[.slice A (s.2 + t) c] W fun e w' => ∃ v, e = .returned v ∧ Rd 5 w' v (bts (s.1.take (s.2 + t))) ∧ Below W.heap.size W w' ∧ Fr W.heap.size v := by
    intro W hb
    obtain ⟨A3, c3, hv, _, _, hsl⟩ := (hbt.below hb (Nat.le_refl _)).sl
    have hln : (s.1.take (s.2 + t)).length = s.2 + t := by simp; omega
    rw [bts_len, hln] at hv
    cases hv
    have := clone_any A (s.1.take (s.2 + t)) c W (by omega) (by rw [bts_len, hln] at hsl; rw [hln]; exact hsl)
    rwa [hln] at this
  have HCL := Lib.hid hclone
  unfold maxLen at hc2
  have hpl := b1.lt
  have c2 := b1.cell 2
  have c3 := b1.cell 3
  have c4 := b1.cell 4
  have hfl : f.2 ≤ 1048576 := by have := h.okf.1; have := h.okf.2; omega
  have HOK := Lib.hid hok
  have k1 : ((s.2 + t : Nat) : Int) ≤ (c : Int) := by omega
  clear h b1 b2 o1 o2 hSs hpb hae hs hcs hok hb2 hte hsb hbt hclone
  rcases hcase with ⟨h0, rfl, hfs⟩ | ⟨h0, b, off, rfl, hk0, hk1⟩
  · subst h0
    rw [hfs] at c3
    clear b3
    have e2 : IntKind.i64.wrap ((s.1.length : Int) - s.2) = (s.1.length : Int) - s.2 := IntWalk.i64_in _ (by omega)
    have e3 : IntKind.i64.wrap ((s.1.length : Int) - s.2 + 1) = (s.1.length : Int) - s.2 + 1 := IntWalk.i64_in _ (by omega)
    have e4 : IntKind.i64.wrap ((s.2 : Int) + t) = (s.2 : Int) + t := IntWalk.i64_in _ (by omega)
    go_enter Tryd.func21, Tryd.ntmps21
    go_wp2_with fail
    with_reducible refine (HRA.out _).mono ?_
    rintro e w' ⟨rfl, rfl⟩
    go_wp2_with fail
    go_quiet ((with_reducible exact Calls.quiet_of_same ((HRT.out _).mono fun e w' h => ⟨h.1, h.2.symm⟩)))
    go_wp2_with fail
    have hbw : Below w.heap.size w ((w.alloc (.cells #[.slice A s.1.length c, .int .i64 (s.2 : Int)] 55)).drewN nq) := below_drewN ((Below.refl _ w).alloc (Nat.le_refl _) _) nq
    have hbk := (Bk.new w 55 #[.slice A s.1.length c, .int .i64 (s.2 : Int)]).drewN nq
    with_reducible refine (HCL.out _ hbw).mono ?_
    rintro e w1 ⟨v, rfl, hr, hb1, hfr1⟩
    have hbk1 := hbk.below hb1 hbk.lt
    have hb2 := step_b hbw hb1
    have HFR := Lib.hid (hfr1.less hbw.size)
    clear hfr1
    obtain ⟨A4, c4, hv, _, _, _⟩ := hr.sl
    subst hv
    obtain ⟨L4, hL4⟩ : ∃ L4, (bts (s.1.take (s.2 + t))).length = L4 := ⟨_, rfl⟩
    rw [hL4] at hr HFR ⊢
    have d0 := hbk1.cell 0
    have d1 := hbk1.cell 1
    have g0 := hbk1.frozen 0
    have g1 := hbk1.frozen 1
    have HE := Lib.hid (cut_end (c := (s.1.take (s.2 + t), s.2 + t)) hb2 hr HOK.out (Nat.le_refl _) ⟨_, _, hbk1⟩ HFR.out ((s.2 : Int) + t) (by simp))
    clear hbk hbk1 hr hL4 hbw
    go_wp2_with fail
    go_ret
    exact HE.out
  · obtain ⟨k, rfl⟩ : ∃ k, a = k + 1 := ⟨a - 1, by omega⟩
    rw [show ((k + 1 : Nat) : Int) = (k : Int) + 1 from by omega] at HRA
    rw [show k + 1 - 1 = k from rfl] at hk0 hk1
    obtain ⟨Af, cf, rfl, _, _, _⟩ := b3.sl
    obtain ⟨lf, hlf⟩ : ∃ lf, (bts f.1).length = lf := ⟨_, rfl⟩
    rw [hlf] at c2
    have hkl : k < st.length := by omega
    have e2 : IntKind.i64.wrap ((s.1.length : Int) - s.2) = (s.1.length : Int) - s.2 := IntWalk.i64_in _ (by omega)
    have e3 : IntKind.i64.wrap ((s.1.length : Int) - s.2 + 1) = (s.1.length : Int) - s.2 + 1 := IntWalk.i64_in _ (by omega)
    have e4 : IntKind.i64.wrap ((s.2 : Int) + t) = (s.2 : Int) + t := IntWalk.i64_in _ (by omega)
    have hbl := World.block_lt_of_cell? w _ hk0
    have hk2 : (w.alloc (.cells #[.slice Af lf cf, .int .i64 (f.2 : Int)] 55)).cell? ⟨b, off + k * 2, none⟩ = some (.slice A s.1.length c) := (World.cell?_alloc_lt w _ _ hbl).trans hk0
    have hk3 : (w.alloc (.cells #[.slice Af lf cf, .int .i64 (f.2 : Int)] 55)).cell? ⟨b, off + k * 2 + 1, none⟩ = some (.int .i64 (s.2 : Int)) := (World.cell?_alloc_lt w _ ⟨b, off + k * 2 + 1, none⟩ hbl).trans hk1
    clear b3 hlf
    go_enter Tryd.func21, Tryd.ntmps21
    go_wp2_with fail
    with_reducible refine (HRA.out _).mono ?_
    rintro e w' ⟨rfl, rfl⟩
    go_wp2_with fail
    go_quiet ((with_reducible exact Calls.quiet_of_same ((HRT.out _).mono fun e w' h => ⟨h.1, h.2.symm⟩)))
    go_wp2_with fail
    have hbw : Below w.heap.size w ((w.alloc (.cells #[.slice A s.1.length c, .int .i64 (s.2 : Int)] 55)).drewN nq) := below_drewN ((Below.refl _ w).alloc (Nat.le_refl _) _) nq
    have hbk := (Bk.new w 55 #[.slice A s.1.length c, .int .i64 (s.2 : Int)]).drewN nq
    with_reducible refine (HCL.out _ hbw).mono ?_
    rintro e w1 ⟨v, rfl, hr, hb1, hfr1⟩
    have hbk1 := hbk.below hb1 hbk.lt
    have hb2 := step_b hbw hb1
    have HFR := Lib.hid (hfr1.less hbw.size)
    clear hfr1
    obtain ⟨A4, c4, hv, _, _, _⟩ := hr.sl
    subst hv
    obtain ⟨L4, hL4⟩ : ∃ L4, (bts (s.1.take (s.2 + t))).length = L4 := ⟨_, rfl⟩
    rw [hL4] at hr HFR ⊢
    have d0 := hbk1.cell 0
    have d1 := hbk1.cell 1
    have g0 := hbk1.frozen 0
    have g1 := hbk1.frozen 1
    have HE := Lib.hid (cut_end (c := (s.1.take (s.2 + t), s.2 + t)) hb2 hr HOK.out (Nat.le_refl _) ⟨_, _, hbk1⟩ HFR.out ((s.2 : Int) + t) (by simp))
    clear hbk hbk1 hr hL4 hbw
    go_wp2_with fail
    go_ret
    exact HE.out
end Go.Proofs.YtpmmojjffjpmbaaDoor

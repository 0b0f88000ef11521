/- What this text proves: the contract of the reference tape's Cut. The conditions are how the values lie in memory. -/
import Derived.Test.YtfgjpmbbfilemaaTapeRefCut
namespace Go.Proofs.Ytfgjpmbbfilemaa
open Go.RowKit
set_option linter.unusedVariables false
set_option linter.unusedSimpArgs false

theorem once {X G : Prop} (h : Hid X → G) (x : X) : G := h (Lib.hid x)

set_option maxHeartbeats 40000000 in
theorem rcut_any (m : Nat) (lv : Value) (l : List (List UInt8 × Nat)) (f : List UInt8 × Nat) (st : List (List UInt8 × Nat)) (at_ torn : Int) (w : World) (hl : l = f :: st) (h : RefAt w m lv l) (hn : st.length ≤ 1000000)
    (ha : -9223372036854775808 ≤ at_ ∧ at_ ≤ 9223372036854775807) (ht : -9223372036854775808 ≤ torn ∧ torn ≤ 9223372036854775807) :
    Calls Try.prog 14 #[.pointer (some ⟨m, 0, none⟩), .int .i64 at_, .int .i64 torn] w (RNew w (cutStep f st at_ torn)) := by
  obtain ⟨ha1, ha2⟩ := ha
  obtain ⟨ht1, ht2⟩ := ht
  have hpb := pickI_bd at_ (st.length + 1) (by omega)
  obtain ⟨a, hae⟩ : ∃ a : Nat, pickI at_ (st.length + 1) = a := ⟨(pickI at_ (st.length + 1)).toNat, by omega⟩
  have hal : a < st.length + 1 := by omega
  obtain ⟨s, hs⟩ : ∃ s, l[a]? = some s := by rw [hl]; exact ⟨_, List.getElem?_eq_getElem (by simpa using hal)⟩
  obtain ⟨b, off, C, A, c, hlv, hbl, hC1, hC2, x0, x1, hsb, hc1, hc2, hsok⟩ := h.elem hs
  have hcs : cutStep f st at_ torn = (s.1.take (s.2 + (pickI torn ((s.1.length : Int) - s.2 + 1)).toNat), s.2 + (pickI torn ((s.1.length : Int) - s.2 + 1)).toNat) := by
    unfold cutStep
    rw [hae, Int.toNat_natCast, List.getD_eq_getElem?_getD, ← hl, hs, Option.getD_some]
  have hok := cutStep_ok (f := f) (st := st) (at_ := at_) (torn := torn) (h.ok f (by rw [hl]; simp)) (fun s hs => h.ok s (by rw [hl]; simp [hs]))
  rw [hcs] at hok ⊢
  obtain ⟨hsl, hss⟩ := hsok
  have hb2 := pickI_bd torn ((s.1.length : Int) - s.2 + 1) (by omega)
  obtain ⟨t, hte⟩ : ∃ t : Nat, pickI torn ((s.1.length : Int) - s.2 + 1) = t := ⟨(pickI torn ((s.1.length : Int) - s.2 + 1)).toNat, by omega⟩
  rw [hte] at hok ⊢
  simp only [Int.toNat_natCast] at hok ⊢
  have htl : s.2 + t ≤ s.1.length := by omega
  have HRA := Lib.hid (fun (W : World) => pick_any at_ (st.length + 1) W (by omega) (by omega) ha1 ha2)
  have HRT := Lib.hid (fun (W : World) => pick_any torn ((s.1.length : Int) - s.2 + 1) W (by omega) (by omega) ht1 ht2)
  rw [hae] at HRA
  rw [hte] at HRT
  obtain ⟨A', c', hA', hbt⟩ := hsb.take (k := s.2 + t) (by rw [bts_len]; exact htl)
  rw [bts_len] at hA'
  injection hA' with hA1 hA0 hA2
  subst hA1 hA2
  clear hA0
  rw [bts_take] at hbt
  have c0 := h.bk.cell 0
  have hml := h.bk.lt
  rw [hlv] at c0
  have hln : l.length = st.length + 1 := by rw [hl]; simp
  rw [hln] at c0
  obtain ⟨N, hN⟩ : ∃ N, st.length = N := ⟨_, rfl⟩
  rw [hN] at c0 HRA hal hn
  unfold maxLen at hc2
  have HE := Lib.hid (fun (w1 w2 w3 : World) (hb : Below w.heap.size w w1) => rnew_of (w := w) (w1 := w1) (w2 := w2) (w3 := w3) (v := .slice A (s.2 + t) c) (c := (s.1.take (s.2 + t), s.2 + t)) hok hb (hbt.below hb (Nat.le_refl _)))
  have e2 : IntKind.i64.wrap ((s.1.length : Int) - s.2) = (s.1.length : Int) - s.2 := IntWalk.i64_in _ (by omega)
  have e3 : IntKind.i64.wrap ((s.1.length : Int) - s.2 + 1) = (s.1.length : Int) - s.2 + 1 := IntWalk.i64_in _ (by omega)
  have e4 : IntKind.i64.wrap ((s.2 : Int) + t) = (s.2 : Int) + t := IntWalk.i64_in _ (by omega)
  have k1 : ((s.2 + t : Nat) : Int) ≤ (c : Int) := by omega
  have k2 : (a : Int) < (N : Int) + 1 := by omega
  clear hs hsb hbt hcs hok hpb hae hte hb2 h hl hlv hln hN hC1 hC2
  go_enter Try.func14, Try.ntmps14
  go_wp2_with fail
  apply once
  · intro key
    go_region_law (first | (go_simp; go_at_call 24; with_reducible refine (HRA.out _).mono ?_; rintro e w' ⟨rfl, rfl⟩))
    all_goals exact key.out
  have hB : Below w.heap.size w (w.alloc (.cells #[.slice A s.1.length c, .int .i64 (s.2 : Int)] 55)).drew := Below.drew ((Below.refl _ w).alloc (Nat.le_refl _) _)
  have hbk := (Bk.new w 55 #[.slice A s.1.length c, .int .i64 (s.2 : Int)]).drew
  obtain ⟨W, hW⟩ : ∃ W, (w.alloc (.cells #[.slice A s.1.length c, .int .i64 (s.2 : Int)] 55)).drew = W := ⟨_, rfl⟩
  rw [hW] at hB hbk ⊢
  clear hW x0 x1 c0
  have d0 := hbk.cell 0
  have d1 := hbk.cell 1
  go_wp2_with fail
  go_quiet ((with_reducible exact Calls.quiet_of_same ((HRT.out _).mono fun e w' h => ⟨h.1, h.2.symm⟩)))
  have hbw : Below w.heap.size w (W.drewN nq) := below_drewN hB nq
  have HE2 := Lib.hid (HE.out (W.drewN nq) _ _ hbw rfl rfl)
  go_wp2_with fail
  go_ret
  have h := HE2.out
  simp only [Int.natCast_add] at h
  exact h
end Go.Proofs.Ytfgjpmbbfilemaa

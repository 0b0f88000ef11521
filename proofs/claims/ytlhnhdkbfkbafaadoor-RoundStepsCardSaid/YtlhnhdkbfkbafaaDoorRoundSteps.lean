/- What this text proves: the contract of the law RoundSteps. The conditions are that hashes have 32 bytes, and that the package's empty hash is empty. -/
import Derived.Test.YtlhnhdkbfkbafaaDoorRefStep
import Derived.Test.YtlhnhdkbfkbafaaDoorRefSaid
import Derived.Test.YtlhnhdkbfkbafaaDoorEvery
namespace Go.Proofs.YtlhnhdkbfkbafaaDoor
open Go.RowKit
set_option linter.unusedVariables false
set_option linter.unusedSimpArgs false

theorem OutAt.keep {w w' : World} {N g : Nat} {v : Value} {oo : Option Out} {x : Obj} (h : OutAt w N v oo) (hg : w.heap.size ≤ g) (hm : Moves (fun k _ => k = g) (w.alloc x) w') : OutAt w' N v oo := by
  cases oo with
  | none => exact h
  | some o => obtain ⟨b, h1, h2, h3⟩ := h; exact ⟨b, h1, h2, hm.bk (h3.alloc _) (by have := h3.lt; omega)⟩
theorem OutAt.below {w w' : World} {N : Nat} {v : Value} {oo : Option Out} (h : OutAt w N v oo) (hb : Below w.heap.size w w') : OutAt w' N v oo := by
  cases oo with
  | none => exact h
  | some o => obtain ⟨b, h1, h2, h3⟩ := h; exact ⟨b, h1, h2, h3.below hb h3.lt⟩
theorem OutAt.off {w w' : World} {N g : Nat} {v : Value} {oo : Option Out} {t : TypeId} {cs : Array Value} (h : OutAt w N v oo) (hg : Bk w g t cs) (hc : cs.size = 102) (ho : ∀ o, oo = some o → o.block.length = 32) (hm : Moves (fun k _ => k = g) w w') : OutAt w' N v oo := by
  cases oo with
  | none => exact h
  | some o =>
    obtain ⟨b, h1, h2, h3⟩ := h
    refine ⟨b, h1, h2, hm.bk h3 fun e => ?_⟩
    subst e
    have h4 := hg.symm.trans h3
    simp only [Option.some.injEq, Obj.cells.injEq] at h4
    have h5 := congrArg Array.size h4.1
    rw [hc] at h5
    have := Out.cells_len (ho o rfl)
    simp at h5
    omega
theorem ROutAt.off {w w' : World} {N g : Nat} {v : Value} {oo : Option Out} {t : TypeId} {cs : Array Value} (h : ROutAt w N v oo) (hg : Bk w g t cs) (hc : cs.size = 102) (ho : ∀ o, oo = some o → o.block.length = 32) (hm : Moves (fun k _ => k = g) w w') : ROutAt w' N v oo := by
  cases oo with
  | none => exact h
  | some o =>
    obtain ⟨b, h1, h2, h3⟩ := h
    refine ⟨b, h1, h2, hm.bk h3 fun e => ?_⟩
    subst e
    have h4 := hg.symm.trans h3
    simp only [Option.some.injEq, Obj.cells.injEq] at h4
    have h5 := congrArg Array.size h4.1
    rw [hc] at h5
    have := Out.cells_len (ho o rfl)
    simp at h5
    omega
theorem keeps_rout {N : Nat} (oo : Option Out) (ho : ∀ o, oo = some o → o.block.length = 32) : Keeps N 31 102 fun v W => ROutAt W N v oo := fun _ _ _ h ⟨g, c, c2, h1, h2, h3, h4, hg, hm⟩ => h.off h1 h3 ho hm
theorem keeps_tup {N : Nat} (cs : List Value) (oo : Option Out) (ho : ∀ o, oo = some o → o.block.length = 32) : Keeps N 31 102 fun v W => ∃ u, v = .tuple #[.agg cs.toArray, u] ∧ ROutAt W N u oo := fun _ _ _ ⟨u, e, h⟩ ⟨g, c, c2, h1, h2, h3, h4, hg, hm⟩ => ⟨u, e, h.off h1 h3 ho hm⟩
def AnyAt (N : Nat) (t : TypeId) (n : Nat) (v : Value) (W : World) : Prop := ∃ g, ∃ c : List Value, v = .pointer (some ⟨g, 0, none⟩) ∧ N ≤ g ∧ c.length = n ∧ Bk W g t c.toArray
theorem stays_any (N : Nat) (t : TypeId) (n : Nat) : Remains (AnyAt N t n) := fun _ _ _ ⟨g, c, h1, h2, h3, h4⟩ hb => ⟨g, c, h1, h2, h3, h4.below hb h4.lt⟩
theorem keeps_any (N : Nat) (n : Nat) (t : TypeId) : Keeps N t n (AnyAt N t n) := fun _ W W' ⟨g, c, e, hg, hc, hb⟩ ⟨g', c1, c2, h1, h2, h3, h4, hg', hm⟩ => by
  by_cases h : g = g'
  · subst h
    exact ⟨g, c2.toList, e, hg, by simpa using h4, by simpa using h2⟩
  · exact ⟨g, c, e, hg, hc, hm.bk hb h⟩
theorem stays_new (N : Nat) (t : TypeId) (cs : Array Value) : Remains fun v W => ∃ g, v = .pointer (some ⟨g, 0, none⟩) ∧ N ≤ g ∧ Bk W g t cs := fun _ _ _ ⟨g, h1, h2, h3⟩ hb => ⟨g, h1, h2, h3.below hb h3.lt⟩
theorem toLit (t : Array Value) (n : Nat) (h : t.size = n) : t = ((List.range n).map (fun j => t.getD j undef)).toArray := by
  apply Array.ext
  · simp [h]
  · intro i h1 h2
    simp [h1]
set_option maxRecDepth 100000 in
set_option maxHeartbeats 8000000 in
theorem steps_any (s : St) (i : In) (w : World) (hs : s.good) (hi : i.fits) (hn : None0 w) (hg : (stepF s i).1.good) (hf : ∀ o, (stepF s i).2 = some o → o.block.length = 32) :
    Calls Tryd.prog 3 #[.agg s.cells.toArray, .agg i.cells.toArray] w fun e w' => e = .returned (.bool true) ∧ Below w.heap.size w w' := by
  have hzs := zero_state
  have hcl := In.cells_len hi
  have hsl := St.cells_len hs
  have hrl := St.cells_len hg
  have hzl := St.cells_len St.zero_good
  go_enter Tryd.func3, Tryd.ntmps3
  go_upto_region 1 with fail
  have HA0 := Lib.hid (show At ((w.alloc (.cells s.cells.toArray 25)).alloc (.cells i.cells.toArray 27)) w.heap.size (w.heap.size + 1) s i from ⟨(Bk.new w 25 s.cells.toArray).alloc _, by have := Bk.new (w.alloc (.cells s.cells.toArray 25)) 27 i.cells.toArray; simpa using this, World.rangeAt_alloc (World.rangeAt_alloc hn _) _⟩)
  have HB0 := Lib.hid (show Below w.heap.size w ((w.alloc (.cells s.cells.toArray 25)).alloc (.cells i.cells.toArray 27)) from (by (first | assumption | (repeat (first | exact Below.refl _ _ | assumption | apply Below.drew | apply below_drewN | (refine Below.setCell ?_ (by (try simp) <;> omega) _) | (refine Below.alloc ?_ (by (try simp) <;> omega) _))))))
  obtain ⟨w0, hw0⟩ : ∃ w0, (w.alloc (.cells s.cells.toArray 25)).alloc (.cells i.cells.toArray 27) = w0 := ⟨_, rfl⟩
  have hsz : w0.heap.size = w.heap.size + 1 + 1 := by rw [← hw0]; simp
  have hg0 := hn.size
  obtain ⟨gs, hgs⟩ : ∃ gs, w.heap.size = gs := ⟨_, rfl⟩
  rw [hw0] at HA0 HB0 ⊢
  rw [hgs] at HA0 HB0 hsz hg0 ⊢
  obtain ⟨gi, hgi⟩ : ∃ gi, gs + 1 = gi := ⟨_, rfl⟩
  rw [hgi] at HA0 hsz ⊢
  have HNN : Hid (None0 w0) := Lib.hid HA0.out.N
  clear hw0 hn
  have rS := HA0.out.S.all
  have rI := HA0.out.I.all
  go_wp2_with (first | (refine wpList_val (by rfl) (run_load_seg 25 _ (by with_reducible rfl) _ _ (by rfl) _ (by assumption) 102 (by assumption) _ Tryd.underlying25 (by rfl) hi_state) ?_) | (refine wpList_val (by rfl) (run_load_seg 27 _ (by with_reducible rfl) _ _ (by rfl) _ (by assumption) 68 (by assumption) _ Tryd.underlying27 (by rfl) hi_input) ?_))
  with_reducible refine (step_any s i w0 hs hi HNN.out).mono ?_
  rintro e w2 ⟨v, rfl, ho, hb2⟩
  clear rS rI
  obtain ⟨r1, hr1⟩ : ∃ r1, (stepF s i).1 = r1 := ⟨_, rfl⟩
  obtain ⟨r2, hr2⟩ : ∃ r2, (stepF s i).2 = r2 := ⟨_, rfl⟩
  have hr : stepF s i = (r1, r2) := by rw [← hr1, ← hr2]
  rw [hr2] at ho
  rw [hr1] at hg hrl
  simp only [hr1]
  rw [hr2] at hf
  have HA2 : Hid (At w2 gs gi s i) := Lib.hid ⟨HA0.out.S.below hb2 (by omega), HA0.out.I.below hb2 (by omega), rangeAt_below HA0.out.N hb2 (by omega)⟩
  have hz2 := hb2.size
  have HB2 : Hid (Below gs w w2) := Lib.hid (HB0.out.trans (hb2.mono (by omega)))
  have HO2 := Lib.hid ho
  clear ho hb2 hr1 hr2
  have hR := Bk.new w2 25 St.zero.cells.toArray
  obtain ⟨gr, hgr⟩ : ∃ gr, w2.heap.size = gr := ⟨_, rfl⟩
  rw [hgr] at hR hz2
  have HR := Lib.hid hR
  have HF := Lib.hid hf
  have HH := Lib.hid hr
  clear hR hf hr
  go_upto_region 2 with (refine wpList_puts (by rfl) 25 _ _ (by with_reducible rfl) gr 0 (by rfl) r1.cells (by rfl) 25 St.zero.cells (by exact HR.out) 102 hrl (by rw [hzl]; omega) hi_state St.one_cells ?_; intro w7 hb7 hm7 hz7; rw [put_all (by rw [hzl, hrl])] at hb7; have HR7 := Lib.hid hb7; have HM7 := Lib.hid hm7; clear hb7 hm7 hz7)
  have HA7 : Hid (At w7 gs gi s i) := Lib.hid ⟨HM7.out.bk (HA2.out.S.alloc _) (by omega), HM7.out.bk (HA2.out.I.alloc _) (by omega), rangeAt_moves (World.rangeAt_alloc HA2.out.N _) HM7.out (fun _ => by omega)⟩
  have hs7 : gs ≤ w7.heap.size := by have := HA7.out.S.lt; omega
  have HB7 : Hid (Below gs w w7) := Lib.hid (by
    have h3 := HB2.out.alloc (by omega) (.cells St.zero.cells.toArray 25)
    exact h3.trans (HM7.out.to_below (by have := HB2.out.size; simp; omega) (fun k _ e => by omega)))
  have HO7 : Hid (OutAt w7 w0.heap.size v r2) := Lib.hid (HO2.out.keep (by omega) HM7.out)
  clear HA0 HB0 HNN HA2 HB2 HR HM7 HO2 hzs
  have hzs := zero_rstate
  obtain ⟨N, hN⟩ : ∃ N, w7.drew.heap.size = N := ⟨_, rfl⟩
  have hNs : w7.heap.size ≤ N := by rw [← hN]; exact (show Below w7.heap.size w7 w7.drew from (by (first | assumption | (repeat (first | exact Below.refl _ _ | assumption | apply Below.drew | apply below_drewN | (refine Below.setCell ?_ (by (try simp) <;> omega) _) | (refine Below.alloc ?_ (by (try simp) <;> omega) _)))))).size
  have hr7 := HR7.out.lt
  have HW : Hid (∀ W, Below w7.drew.heap.size w7.drew W → Bk W gs 25 s.cells.toArray ∧ Bk W gi 27 i.cells.toArray ∧ Bk W gr 25 r1.cells.toArray ∧ None0 W ∧ OutAt W w0.heap.size v r2 ∧ gs ≤ W.heap.size) := Lib.hid (fun W h => ⟨HA7.out.S.drew.below h HA7.out.S.drew.lt, HA7.out.I.drew.below h HA7.out.I.drew.lt, HR7.out.drew.below h HR7.out.drew.lt, rangeAt_below ((World.rangeAt_drew _ _ _ _).2 HA7.out.N) h (by have := HA7.out.S.drew.lt; omega), OutAt.below (oo := r2) (OutAt.below (oo := r2) HO7.out (show Below w7.heap.size w7 w7.drew from (by (first | assumption | (repeat (first | exact Below.refl _ _ | assumption | apply Below.drew | apply below_drewN | (refine Below.setCell ?_ (by (try simp) <;> omega) _) | (refine Below.alloc ?_ (by (try simp) <;> omega) _))))))) h, by have := HA7.out.S.drew.lt; have := h.size; omega⟩)
  have hbl1 : (bts i.block).length = 32 := by rw [bts_len, hi.block]
  have hol1 : (bts i.own).length = 32 := by rw [bts_len, hi.own]
  have HMK := Lib.hid (made_rinput i hi)
  have hcs := hrl
  refine wp_region_every (lstV ([fun v _ => v = .agg s.cells.toArray, fun v _ => v = .agg s.cells.toArray, fun v _ => v = .pointer (some ⟨gi, 0, none⟩), fun v _ => v = .int .i64 i.kind, fun v _ => v = .pointer (some ⟨gi, 1, none⟩), fun v _ => v = .int .i64 i.round, fun v _ => v = .pointer (some ⟨gi, 2, none⟩), fun v _ => v = .agg (bts i.block).toArray, fun v _ => v = .pointer (some ⟨gi, 34, none⟩), fun v _ => v = .int .i64 i.valid, fun v _ => v = .pointer (some ⟨gi, 35, none⟩), fun v _ => v = .bool i.good, fun v _ => v = .pointer (some ⟨gi, 36, none⟩), fun v _ => v = .agg (bts i.own).toArray, fun v _ => v = .agg i.cells.toArray, fun v W => ∃ u, v = .tuple #[.agg r1.cells.toArray, u] ∧ ROutAt W N u r2, fun v W => ∃ u, v = .tuple #[.agg r1.cells.toArray, u] ∧ ROutAt W N u r2, fun v _ => v = .agg r1.cells.toArray, fun v W => ROutAt W N v r2, AnyAt N 31 102] ++ (fun v W => ∃ g, v = .pointer (some ⟨g, 0, none⟩) ∧ N ≤ g ∧ Bk W g 31 r1.cells.toArray) :: [fun v W => ROutAt W N v r2])) (stepS N 31 102 20) (fun j => ([17, 18, 19, 20, 21, 22, 23, 24, 25, 26, 27, 28, 29, 30, 31, 32, 16, 33, 34, 7, 7, 8] : List Nat).getD j 0) (by kernel_rfl) (by kernel_rfl) (stepS_on rfl (by repeat' (first | exact forall_nil | refine forall_cons ?_ ?_ | exact stays_rout _ _ | exact stays_tup _ _ _ | exact stays_any _ _ _ | exact stays_new _ _ _ | exact stays_eq _)) (by repeat' (first | exact forall_nil | refine forall_cons ?_ ?_ | exact keeps_rout _ HF.out | exact keeps_tup _ _ HF.out | exact keeps_any _ _ _ | exact keeps_eq _))) (stepS_base hN) ?turns ?fin
  case turns =>
    refine ⟨fun a W pre => ?_, fun a W pre => ?_, fun a W pre => ?_, fun a W pre => ?_, fun a W pre => ?_, fun a W pre => ?_, fun a W pre => ?_, fun a W pre => ?_, fun a W pre => ?_, fun a W pre => ?_, fun a W pre => ?_, fun a W pre => ?_, fun a W pre => ?_, fun a W pre => ?_, fun a W pre => ?_, fun a W pre => ?_, fun a W pre => ?_, fun a W pre => ?_, fun a W pre => ?_, fun a W pre => ?_, fun a W pre => ?_, fun a W pre => ?_, trivial⟩
    · refine EachDoes.turn ?_ rfl (by rw [pre.size]; first | (simp; done) | (show 17 < 54; decide)) (fun W' h => h)
      have e2 : a.eval (.tmp 2) = .pointer (some ⟨gs, 0, none⟩) := pre.was 2 (by kernel_rfl) rfl
      have q2 := e2
      rw [Act.eval, Array.getD_eq_getD_getElem?] at q2
      exact does_val (want_none rfl) (run_load_seg 25 _ rfl gs 0 e2 s.cells (HW.out W pre.b).1.all 102 hsl _ Tryd.underlying25 rfl hi_state) rfl
    · refine EachDoes.turn ?_ rfl (by rw [pre.size]; first | (simp; done) | (show 18 < 54; decide)) (fun W' h => h)
      have e17 : a.eval (.tmp 17) = .agg s.cells.toArray := pre.val 0 (by kernel_rfl)
      have q17 := e17
      rw [Act.eval, Array.getD_eq_getD_getElem?] at q17
      refine does_call_ex (want_none rfl) (by go_simp) ((told_any s hs W).mono fun e W' hx => ?_)
      exact ⟨_, hx.1, rfl, hx.2⟩
    · refine EachDoes.turn ?_ rfl (by rw [pre.size]; first | (simp; done) | (show 19 < 54; decide)) (fun W' h => h)
      have e3 : a.eval (.tmp 3) = .pointer (some ⟨gi, 0, none⟩) := pre.was 3 (by kernel_rfl) rfl
      have q3 := e3
      rw [Act.eval, Array.getD_eq_getD_getElem?] at q3
      exact does_val (want_none rfl) (by go_simp) rfl
    · refine EachDoes.turn ?_ rfl (by rw [pre.size]; first | (simp; done) | (show 20 < 54; decide)) (fun W' h => h)
      have e19 : a.eval (.tmp 19) = .pointer (some ⟨gi, 0, none⟩) := pre.val 2 (by kernel_rfl)
      have q19 := e19
      rw [Act.eval, Array.getD_eq_getD_getElem?] at q19
      have cc := (in_out (HW.out W pre.b).2.1 hi).1
      exact does_val (want_none rfl) (by go_simp) rfl
    · refine EachDoes.turn ?_ rfl (by rw [pre.size]; first | (simp; done) | (show 21 < 54; decide)) (fun W' h => h)
      have e3 : a.eval (.tmp 3) = .pointer (some ⟨gi, 0, none⟩) := pre.was 3 (by kernel_rfl) rfl
      have q3 := e3
      rw [Act.eval, Array.getD_eq_getD_getElem?] at q3
      exact does_val (want_none rfl) (by go_simp) rfl
    · refine EachDoes.turn ?_ rfl (by rw [pre.size]; first | (simp; done) | (show 22 < 54; decide)) (fun W' h => h)
      have e21 : a.eval (.tmp 21) = .pointer (some ⟨gi, 1, none⟩) := pre.val 4 (by kernel_rfl)
      have q21 := e21
      rw [Act.eval, Array.getD_eq_getD_getElem?] at q21
      have cc := (in_out (HW.out W pre.b).2.1 hi).2.1
      exact does_val (want_none rfl) (by go_simp) rfl
    · refine EachDoes.turn ?_ rfl (by rw [pre.size]; first | (simp; done) | (show 23 < 54; decide)) (fun W' h => h)
      have e3 : a.eval (.tmp 3) = .pointer (some ⟨gi, 0, none⟩) := pre.was 3 (by kernel_rfl) rfl
      have q3 := e3
      rw [Act.eval, Array.getD_eq_getD_getElem?] at q3
      exact does_val (want_none rfl) (by go_simp) rfl
    · refine EachDoes.turn ?_ rfl (by rw [pre.size]; first | (simp; done) | (show 24 < 54; decide)) (fun W' h => h)
      have e23 : a.eval (.tmp 23) = .pointer (some ⟨gi, 2, none⟩) := pre.val 6 (by kernel_rfl)
      have q23 := e23
      rw [Act.eval, Array.getD_eq_getD_getElem?] at q23
      exact does_val (want_none rfl) (run_load_seg 23 _ rfl gi 2 e23 (bts i.block) (in_out (HW.out W pre.b).2.1 hi).2.2.1 32 hbl1 _ hu_hash rfl hi_hash) rfl
    · refine EachDoes.turn ?_ rfl (by rw [pre.size]; first | (simp; done) | (show 25 < 54; decide)) (fun W' h => h)
      have e3 : a.eval (.tmp 3) = .pointer (some ⟨gi, 0, none⟩) := pre.was 3 (by kernel_rfl) rfl
      have q3 := e3
      rw [Act.eval, Array.getD_eq_getD_getElem?] at q3
      exact does_val (want_none rfl) (by go_simp) rfl
    · refine EachDoes.turn ?_ rfl (by rw [pre.size]; first | (simp; done) | (show 26 < 54; decide)) (fun W' h => h)
      have e25 : a.eval (.tmp 25) = .pointer (some ⟨gi, 34, none⟩) := pre.val 8 (by kernel_rfl)
      have q25 := e25
      rw [Act.eval, Array.getD_eq_getD_getElem?] at q25
      have cc := (in_out (HW.out W pre.b).2.1 hi).2.2.2.1
      exact does_val (want_none rfl) (by go_simp) rfl
    · refine EachDoes.turn ?_ rfl (by rw [pre.size]; first | (simp; done) | (show 27 < 54; decide)) (fun W' h => h)
      have e3 : a.eval (.tmp 3) = .pointer (some ⟨gi, 0, none⟩) := pre.was 3 (by kernel_rfl) rfl
      have q3 := e3
      rw [Act.eval, Array.getD_eq_getD_getElem?] at q3
      exact does_val (want_none rfl) (by go_simp) rfl
    · refine EachDoes.turn ?_ rfl (by rw [pre.size]; first | (simp; done) | (show 28 < 54; decide)) (fun W' h => h)
      have e27 : a.eval (.tmp 27) = .pointer (some ⟨gi, 35, none⟩) := pre.val 10 (by kernel_rfl)
      have q27 := e27
      rw [Act.eval, Array.getD_eq_getD_getElem?] at q27
      have cc := (in_out (HW.out W pre.b).2.1 hi).2.2.2.2.1
      exact does_val (want_none rfl) (by go_simp) rfl
    · refine EachDoes.turn ?_ rfl (by rw [pre.size]; first | (simp; done) | (show 29 < 54; decide)) (fun W' h => h)
      have e3 : a.eval (.tmp 3) = .pointer (some ⟨gi, 0, none⟩) := pre.was 3 (by kernel_rfl) rfl
      have q3 := e3
      rw [Act.eval, Array.getD_eq_getD_getElem?] at q3
      exact does_val (want_none rfl) (by go_simp) rfl
    · refine EachDoes.turn ?_ rfl (by rw [pre.size]; first | (simp; done) | (show 30 < 54; decide)) (fun W' h => h)
      have e29 : a.eval (.tmp 29) = .pointer (some ⟨gi, 36, none⟩) := pre.val 12 (by kernel_rfl)
      have q29 := e29
      rw [Act.eval, Array.getD_eq_getD_getElem?] at q29
      exact does_val (want_none rfl) (run_load_seg 23 _ rfl gi 36 e29 (bts i.own) (in_out (HW.out W pre.b).2.1 hi).2.2.2.2.2 32 hol1 _ hu_hash rfl hi_hash) rfl
    · refine EachDoes.turn ?_ rfl (by rw [pre.size]; first | (simp; done) | (show 31 < 54; decide)) (fun W' h => h)
      have e20 : a.eval (.tmp 20) = .int .i64 i.kind := pre.val 3 (by kernel_rfl)
      have q20 := e20
      rw [Act.eval, Array.getD_eq_getD_getElem?] at q20
      have e22 : a.eval (.tmp 22) = .int .i64 i.round := pre.val 5 (by kernel_rfl)
      have q22 := e22
      rw [Act.eval, Array.getD_eq_getD_getElem?] at q22
      have e24 : a.eval (.tmp 24) = .agg (bts i.block).toArray := pre.val 7 (by kernel_rfl)
      have q24 := e24
      rw [Act.eval, Array.getD_eq_getD_getElem?] at q24
      have e26 : a.eval (.tmp 26) = .int .i64 i.valid := pre.val 9 (by kernel_rfl)
      have q26 := e26
      rw [Act.eval, Array.getD_eq_getD_getElem?] at q26
      have e28 : a.eval (.tmp 28) = .bool i.good := pre.val 11 (by kernel_rfl)
      have q28 := e28
      rw [Act.eval, Array.getD_eq_getD_getElem?] at q28
      have e30 : a.eval (.tmp 30) = .agg (bts i.own).toArray := pre.val 13 (by kernel_rfl)
      have q30 := e30
      rw [Act.eval, Array.getD_eq_getD_getElem?] at q30
      have hb := HMK.out
      refine does_val (want_none rfl) (run_build_at 36 _ rfl i.cells ?_) rfl
      simp only [List.map, e20, e22, e24, e26, e28, e30]
      exact hb
    · refine EachDoes.turn ?_ rfl (by rw [pre.size]; first | (simp; done) | (show 32 < 54; decide)) (fun W' h => h)
      have e18 : a.eval (.tmp 18) = .agg s.cells.toArray := pre.val 1 (by kernel_rfl)
      have q18 := e18
      rw [Act.eval, Array.getD_eq_getD_getElem?] at q18
      have e31 : a.eval (.tmp 31) = .agg i.cells.toArray := pre.val 14 (by kernel_rfl)
      have q31 := e31
      rw [Act.eval, Array.getD_eq_getD_getElem?] at q31
      refine does_call_ex (want_none rfl) (by go_simp) ((rstep_any s i W hs hi).mono fun e W' hx => ?_)
      obtain ⟨u, h1, h2, h3⟩ := hx
      rw [HH.out] at h1 h2
      exact ⟨_, h1, ⟨u, rfl, h2.less (hN ▸ pre.b.size)⟩, h3⟩
    · refine EachDoes.turn ?_ rfl (by rw [pre.size]; first | (simp; done) | (show 16 < 54; decide)) (fun W' h => h)
      have hx : ∃ u, a.eval (.tmp 32) = .tuple #[.agg r1.cells.toArray, u] ∧ ROutAt W N u r2 := pre.val 15 (by kernel_rfl)
      obtain ⟨u, q, ho⟩ := hx
      rw [Act.eval, Array.getD_eq_getD_getElem?] at q
      exact does_val (want_none rfl) (by go_simp) ⟨u, rfl, ho⟩
    · refine EachDoes.turn ?_ rfl (by rw [pre.size]; first | (simp; done) | (show 33 < 54; decide)) (fun W' h => h)
      have hx : ∃ u, a.eval (.tmp 16) = .tuple #[.agg r1.cells.toArray, u] ∧ ROutAt W N u r2 := pre.val 16 (by kernel_rfl)
      obtain ⟨u, q, ho⟩ := hx
      rw [Act.eval, Array.getD_eq_getD_getElem?] at q
      exact does_val (want_none rfl) (by go_simp) rfl
    · refine EachDoes.turn ?_ rfl (by rw [pre.size]; first | (simp; done) | (show 34 < 54; decide)) (fun W' h => h)
      have hx : ∃ u, a.eval (.tmp 16) = .tuple #[.agg r1.cells.toArray, u] ∧ ROutAt W N u r2 := pre.val 16 (by kernel_rfl)
      obtain ⟨u, q, ho⟩ := hx
      rw [Act.eval, Array.getD_eq_getD_getElem?] at q
      exact does_val (want_none rfl) (by go_simp) ho
    · refine EachDoes.turn ?_ rfl (by rw [pre.size]; first | (simp; done) | (show 7 < 54; decide)) (fun W' h => h)
      exact does_new (want_none rfl) (W' := W.alloc (.cells St.zero.cells.toArray 31)) (by go_simp) (by (first | assumption | (repeat (first | exact Below.refl _ _ | assumption | apply Below.drew | apply below_drewN | (refine Below.setCell ?_ (by (try simp) <;> omega) _) | (refine Below.alloc ?_ (by (try simp) <;> omega) _))))) ⟨W.heap.size, St.zero.cells, rfl, hN ▸ pre.b.size, hzl, Bk.new W _ _⟩
    · have h7 : AnyAt N 31 102 (a.eval (.tmp 7)) W := pre.val 19 (by kernel_rfl)
      obtain ⟨g, c, e7, hg, hc, hbk⟩ := h7
      have e33 : a.eval (.tmp 33) = .agg r1.cells.toArray := pre.val 17 (by kernel_rfl)
      have q33 := e33
      rw [Act.eval, Array.getD_eq_getD_getElem?] at q33
      refine puts_turn (want_none rfl) rfl 31 _ _ rfl g 0 e7 r1.cells e33 31 c hbk 102 hrl (by omega) hi_rstate St.one_cells (fun W' hb' hm' => ?_)
      rw [put_all (by rw [hrl, hc])] at hb'
      exact ⟨⟨g, e7, hg, hb'⟩, ⟨g, _, _, hbk, hb', by simp [hc], by simp [hrl], hg, hm'⟩⟩
    · refine EachDoes.turn ?_ rfl (by rw [pre.size]; first | (simp; done) | (show 8 < 54; decide)) (fun W' h => h)
      have h34 : ROutAt W N (a.eval (.tmp 34)) r2 := pre.val 18 (by kernel_rfl)
      obtain ⟨v34, q⟩ : ∃ x, a.eval (.tmp 34) = x := ⟨_, rfl⟩
      rw [q] at h34
      rw [Act.eval, Array.getD_eq_getD_getElem?] at q
      exact does_val (want_none rfl) (by go_simp) h34
  case fin =>
    intro a W hb hsz2 hd hv ho
    have q8 : ROutAt W N (a.tmps.getD 8 undef) r2 := hv 21 (by decide)
    have q7 : ∃ g, a.tmps.getD 7 undef = .pointer (some ⟨g, 0, none⟩) ∧ N ≤ g ∧ Bk W g 31 r1.cells.toArray := hv 20 (by decide)
    have q5 : a.tmps.getD 5 undef = .pointer (some ⟨gr, 0, none⟩) := ho 5 (no_dst (by kernel_rfl))
    have q6 : a.tmps.getD 6 undef = v := ho 6 (no_dst (by kernel_rfl))
    obtain ⟨g7, q7, hg7, hZ7⟩ := q7
    have hHW := HW.out W hb
    have HBW : Hid (Below gs w W) := Lib.hid ((HB7.out.trans (show Below gs w7 w7.drew from (by (first | assumption | (repeat (first | exact Below.refl _ _ | assumption | apply Below.drew | apply below_drewN | (refine Below.setCell ?_ (by (try simp) <;> omega) _) | (refine Below.alloc ?_ (by (try simp) <;> omega) _))))))).trans (hb.mono (by omega)))
    obtain ⟨tm, df⟩ := a
    have hd' : df = [] := hd
    have hsz3 : tm.size = 54 := hsz2
    have hl := toLit tm 54 hsz3
    simp only at q5 q6 q7 q8
    obtain ⟨f, hf⟩ : ∃ f : Nat → Value, ∀ j, tm.getD j undef = f j := ⟨_, fun _ => rfl⟩
    simp only [hf] at hl q5 q6 q7 q8
    have hl2 : tm = #[f 0, f 1, f 2, f 3, f 4, f 5, f 6, f 7, f 8, f 9, f 10, f 11, f 12, f 13, f 14, f 15, f 16, f 17, f 18, f 19, f 20, f 21, f 22, f 23, f 24, f 25, f 26, f 27, f 28, f 29, f 30, f 31, f 32, f 33, f 34, f 35, f 36, f 37, f 38, f 39, f 40, f 41, f 42, f 43, f 44, f 45, f 46, f 47, f 48, f 49, f 50, f 51, f 52, f 53] := hl
    rw [q5, q6, q7] at hl2
    obtain ⟨u, hu⟩ : ∃ u, f 8 = u := ⟨_, rfl⟩
    rw [hu] at hl2 q8
    clear hl hf hv ho hd hsz2 hsz3 hb q5 q6 q7 hu
    subst hl2 hd'
    have HZ7 := Lib.hid hZ7
    have HOR := Lib.hid q8
    have HHW := Lib.hid hHW
    clear hZ7 q8 hHW HW HA7 HR7 HB7 HO7 HMK HH
    have hgW : gr < W.heap.size := HHW.out.2.2.1.lt
    have hg7W : g7 < W.heap.size := HZ7.out.lt
    go_wp2_with fail
    with_reducible refine (said_any r2 HF.out W HHW.out.2.2.2.2.1 HOR.out).mono ?_
    rintro e w9 ⟨rfl, hb9⟩
    have hsW : gs ≤ W.heap.size := HHW.out.2.2.2.2.2
    have HS9 := Lib.hid (HHW.out.2.2.1.below hb9 hgW)
    have HZ9 := Lib.hid (HZ7.out.below hb9 hg7W)
    have HN9 : Hid (None0 w9) := Lib.hid (rangeAt_below HHW.out.2.2.2.1 hb9 (by omega))
    have HB9 : Hid (Below gs w w9) := Lib.hid (HBW.out.trans (hb9.mono hsW))
    have hz9 := hb9.size
    clear hb9 HHW HOR HBW HZ7 hsW
    go_upto_region 4 with fail
    have HX : Hid (∀ X, Below w9.drew.heap.size w9.drew X → Bk X gr 25 r1.cells.toArray ∧ Bk X g7 31 r1.cells.toArray ∧ None0 X) := Lib.hid (fun X h => ⟨HS9.out.drew.below h HS9.out.drew.lt, HZ9.out.drew.below h HZ9.out.drew.lt, rangeAt_below ((World.rangeAt_drew _ _ _ _).2 HN9.out) h (by have := HS9.out.drew.lt; omega)⟩)
    have hsame : r1.same r1 = true := St.same_iff.2 rfl
    have hsamn : St.new.same St.new = true := St.same_iff.2 rfl
    refine wp_region_every (lstV [fun v _ => v = .bool true, fun v _ => v = .bool true, fun v _ => v = .agg St.new.cells.toArray, fun v _ => v = .agg St.new.cells.toArray, fun v _ => v = .agg St.new.cells.toArray, fun v _ => v = .bool true, fun v _ => v = .bool true, fun v _ => v = .bool true, fun v _ => v = .agg r1.cells.toArray, fun v _ => v = .agg r1.cells.toArray, fun v _ => v = .agg r1.cells.toArray, fun v _ => v = .bool true, fun v _ => v = .bool true, fun v _ => v = .bool true, fun v _ => v = .bool true, fun v _ => v = .bool true, fun v _ => v = .bool true]) (fun _ W W' => Below W.heap.size W W') (fun j => ([38, 39, 40, 41, 42, 43, 44, 45, 46, 47, 48, 49, 50, 51, 52, 53, 4] : List Nat).getD j 0) (by kernel_rfl) (by kernel_rfl) (fun i j v W W' _ hv hb => lstV_on (by repeat' (first | exact forall_nil | refine forall_cons ?_ ?_ | exact stays_eq _)) j v W W' hv hb) (fun i W W' hb h => hb.trans (h.mono hb.size)) ?turns2 ?fin2
    case turns2 =>
      refine ⟨fun a X pre => ?_, fun a X pre => ?_, fun a X pre => ?_, fun a X pre => ?_, fun a X pre => ?_, fun a X pre => ?_, fun a X pre => ?_, fun a X pre => ?_, fun a X pre => ?_, fun a X pre => ?_, fun a X pre => ?_, fun a X pre => ?_, fun a X pre => ?_, fun a X pre => ?_, fun a X pre => ?_, fun a X pre => ?_, fun a X pre => ?_, trivial⟩
      · refine EachDoes.turn ?_ rfl (by rw [pre.size]; first | (simp; done) | (show 38 < 54; decide)) (fun W' h => h)
        refine does_call_ex (want_none rfl) (by go_simp) ((alive_any X (HX.out X pre.b).2.2).mono fun e W' hx => ?_)
        exact ⟨_, hx.1, rfl, hx.2⟩
      · refine EachDoes.turn ?_ rfl (by rw [pre.size]; first | (simp; done) | (show 39 < 54; decide)) (fun W' h => h)
        have e38 : a.eval (.tmp 38) = .bool true := pre.val 0 (by kernel_rfl)
        have q38 := e38
        rw [Act.eval, Array.getD_eq_getD_getElem?] at q38
        exact does_val (want_none rfl) (by go_simp) rfl
      · refine EachDoes.turn ?_ rfl (by rw [pre.size]; first | (simp; done) | (show 40 < 54; decide)) (fun W' h => h)
        have hgd : a.tmps.getD 39 undef = .bool true := pre.val 1 (by kernel_rfl)
        have hgs : 39 < a.tmps.size := by rw [pre.size]; first | (simp; done) | (show 39 < 54; decide)
        refine does_call_ex (want_some rfl (by kernel_rfl) hgs hgd) (by go_simp) ((new_any X).mono fun e W' hx => ?_)
        exact ⟨_, hx.1, rfl, hx.2⟩
      · refine EachDoes.turn ?_ rfl (by rw [pre.size]; first | (simp; done) | (show 41 < 54; decide)) (fun W' h => h)
        have hgd : a.tmps.getD 39 undef = .bool true := pre.val 1 (by kernel_rfl)
        have hgs : 39 < a.tmps.size := by rw [pre.size]; first | (simp; done) | (show 39 < 54; decide)
        have e40 : a.eval (.tmp 40) = .agg St.new.cells.toArray := pre.val 2 (by kernel_rfl)
        have q40 := e40
        rw [Act.eval, Array.getD_eq_getD_getElem?] at q40
        refine does_call_ex (want_some rfl (by kernel_rfl) hgs hgd) (by go_simp) ((told_any St.new St.new_good X).mono fun e W' hx => ?_)
        exact ⟨_, hx.1, rfl, hx.2⟩
      · refine EachDoes.turn ?_ rfl (by rw [pre.size]; first | (simp; done) | (show 42 < 54; decide)) (fun W' h => h)
        have hgd : a.tmps.getD 39 undef = .bool true := pre.val 1 (by kernel_rfl)
        have hgs : 39 < a.tmps.size := by rw [pre.size]; first | (simp; done) | (show 39 < 54; decide)
        refine does_call_ex (want_some rfl (by kernel_rfl) hgs hgd) (by go_simp) ((rnew_any X).mono fun e W' hx => ?_)
        exact ⟨_, hx.1, rfl, hx.2⟩
      · refine EachDoes.turn ?_ rfl (by rw [pre.size]; first | (simp; done) | (show 43 < 54; decide)) (fun W' h => h)
        have hgd : a.tmps.getD 39 undef = .bool true := pre.val 1 (by kernel_rfl)
        have hgs : 39 < a.tmps.size := by rw [pre.size]; first | (simp; done) | (show 39 < 54; decide)
        have e41 : a.eval (.tmp 41) = .agg St.new.cells.toArray := pre.val 3 (by kernel_rfl)
        have q41 := e41
        rw [Act.eval, Array.getD_eq_getD_getElem?] at q41
        have e42 : a.eval (.tmp 42) = .agg St.new.cells.toArray := pre.val 4 (by kernel_rfl)
        have q42 := e42
        rw [Act.eval, Array.getD_eq_getD_getElem?] at q42
        refine does_val (want_some rfl (by kernel_rfl) hgs hgd) (run_rstate_eql _ _ _ rfl St.new St.new St.new_good St.new_good e41 e42) ?_
        show Value.bool (St.new.same St.new) = .bool true
        rw [hsamn]
      · refine EachDoes.turn ?_ rfl (by rw [pre.size]; first | (simp; done) | (show 44 < 54; decide)) (fun W' h => h)
        have e39 : a.eval (.tmp 39) = .bool true := pre.val 1 (by kernel_rfl)
        have q39 := e39
        rw [Act.eval, Array.getD_eq_getD_getElem?] at q39
        have e43 : a.eval (.tmp 43) = .bool true := pre.val 5 (by kernel_rfl)
        have q43 := e43
        rw [Act.eval, Array.getD_eq_getD_getElem?] at q43
        exact does_val (want_none rfl) (by go_simp) rfl
      · refine EachDoes.turn ?_ rfl (by rw [pre.size]; first | (simp; done) | (show 45 < 54; decide)) (fun W' h => h)
        have e44 : a.eval (.tmp 44) = .bool true := pre.val 6 (by kernel_rfl)
        have q44 := e44
        rw [Act.eval, Array.getD_eq_getD_getElem?] at q44
        exact does_val (want_none rfl) (by go_simp) rfl
      · refine EachDoes.turn ?_ rfl (by rw [pre.size]; first | (simp; done) | (show 46 < 54; decide)) (fun W' h => h)
        have hgd : a.tmps.getD 45 undef = .bool true := pre.val 7 (by kernel_rfl)
        have hgs : 45 < a.tmps.size := by rw [pre.size]; first | (simp; done) | (show 45 < 54; decide)
        have e5 : a.eval (.tmp 5) = .pointer (some ⟨gr, 0, none⟩) := pre.was 5 (by kernel_rfl) rfl
        have q5 := e5
        rw [Act.eval, Array.getD_eq_getD_getElem?] at q5
        exact does_val (want_some rfl (by kernel_rfl) hgs hgd) (run_load_seg 25 _ rfl gr 0 e5 r1.cells (HX.out X pre.b).1.all 102 hrl _ Tryd.underlying25 rfl hi_state) rfl
      · refine EachDoes.turn ?_ rfl (by rw [pre.size]; first | (simp; done) | (show 47 < 54; decide)) (fun W' h => h)
        have hgd : a.tmps.getD 45 undef = .bool true := pre.val 7 (by kernel_rfl)
        have hgs : 45 < a.tmps.size := by rw [pre.size]; first | (simp; done) | (show 45 < 54; decide)
        have e46 : a.eval (.tmp 46) = .agg r1.cells.toArray := pre.val 8 (by kernel_rfl)
        have q46 := e46
        rw [Act.eval, Array.getD_eq_getD_getElem?] at q46
        refine does_call_ex (want_some rfl (by kernel_rfl) hgs hgd) (by go_simp) ((told_any r1 hg X).mono fun e W' hx => ?_)
        exact ⟨_, hx.1, rfl, hx.2⟩
      · refine EachDoes.turn ?_ rfl (by rw [pre.size]; first | (simp; done) | (show 48 < 54; decide)) (fun W' h => h)
        have hgd : a.tmps.getD 45 undef = .bool true := pre.val 7 (by kernel_rfl)
        have hgs : 45 < a.tmps.size := by rw [pre.size]; first | (simp; done) | (show 45 < 54; decide)
        have e7 : a.eval (.tmp 7) = .pointer (some ⟨g7, 0, none⟩) := pre.was 7 (by kernel_rfl) rfl
        have q7 := e7
        rw [Act.eval, Array.getD_eq_getD_getElem?] at q7
        exact does_val (want_some rfl (by kernel_rfl) hgs hgd) (run_load_seg 31 _ rfl g7 0 e7 r1.cells (HX.out X pre.b).2.1.all 102 hrl _ Tryd.underlying31 rfl hi_rstate) rfl
      · refine EachDoes.turn ?_ rfl (by rw [pre.size]; first | (simp; done) | (show 49 < 54; decide)) (fun W' h => h)
        have hgd : a.tmps.getD 45 undef = .bool true := pre.val 7 (by kernel_rfl)
        have hgs : 45 < a.tmps.size := by rw [pre.size]; first | (simp; done) | (show 45 < 54; decide)
        have e47 : a.eval (.tmp 47) = .agg r1.cells.toArray := pre.val 9 (by kernel_rfl)
        have q47 := e47
        rw [Act.eval, Array.getD_eq_getD_getElem?] at q47
        have e48 : a.eval (.tmp 48) = .agg r1.cells.toArray := pre.val 10 (by kernel_rfl)
        have q48 := e48
        rw [Act.eval, Array.getD_eq_getD_getElem?] at q48
        refine does_val (want_some rfl (by kernel_rfl) hgs hgd) (run_rstate_eql _ _ _ rfl r1 r1 hg hg e47 e48) ?_
        show Value.bool (r1.same r1) = .bool true
        rw [hsame]
      · refine EachDoes.turn ?_ rfl (by rw [pre.size]; first | (simp; done) | (show 50 < 54; decide)) (fun W' h => h)
        have e45 : a.eval (.tmp 45) = .bool true := pre.val 7 (by kernel_rfl)
        have q45 := e45
        rw [Act.eval, Array.getD_eq_getD_getElem?] at q45
        have e49 : a.eval (.tmp 49) = .bool true := pre.val 11 (by kernel_rfl)
        have q49 := e49
        rw [Act.eval, Array.getD_eq_getD_getElem?] at q49
        exact does_val (want_none rfl) (by go_simp) rfl
      · refine EachDoes.turn ?_ rfl (by rw [pre.size]; first | (simp; done) | (show 51 < 54; decide)) (fun W' h => h)
        have e50 : a.eval (.tmp 50) = .bool true := pre.val 12 (by kernel_rfl)
        have q50 := e50
        rw [Act.eval, Array.getD_eq_getD_getElem?] at q50
        exact does_val (want_none rfl) (by go_simp) rfl
      · refine EachDoes.turn ?_ rfl (by rw [pre.size]; first | (simp; done) | (show 52 < 54; decide)) (fun W' h => h)
        have hgd : a.tmps.getD 51 undef = .bool true := pre.val 13 (by kernel_rfl)
        have hgs : 51 < a.tmps.size := by rw [pre.size]; first | (simp; done) | (show 51 < 54; decide)
        have e9 : a.eval (.tmp 9) = .bool true := pre.was 9 (by kernel_rfl) rfl
        have q9 := e9
        rw [Act.eval, Array.getD_eq_getD_getElem?] at q9
        exact does_val (want_some rfl (by kernel_rfl) hgs hgd) (by go_simp) rfl
      · refine EachDoes.turn ?_ rfl (by rw [pre.size]; first | (simp; done) | (show 53 < 54; decide)) (fun W' h => h)
        have e51 : a.eval (.tmp 51) = .bool true := pre.val 13 (by kernel_rfl)
        have q51 := e51
        rw [Act.eval, Array.getD_eq_getD_getElem?] at q51
        have e52 : a.eval (.tmp 52) = .bool true := pre.val 14 (by kernel_rfl)
        have q52 := e52
        rw [Act.eval, Array.getD_eq_getD_getElem?] at q52
        exact does_val (want_none rfl) (by go_simp) rfl
      · refine EachDoes.turn ?_ rfl (by rw [pre.size]; first | (simp; done) | (show 4 < 54; decide)) (fun W' h => h)
        have e53 : a.eval (.tmp 53) = .bool true := pre.val 15 (by kernel_rfl)
        have q53 := e53
        rw [Act.eval, Array.getD_eq_getD_getElem?] at q53
        exact does_val (want_none rfl) (by go_simp) rfl
    case fin2 =>
      intro a X hb hsz2 hd hv ho
      have q4 : a.tmps.getD 4 undef = .bool true := hv 16 (by decide)
      have hBX : Below gs w X := (HB9.out.trans (show Below gs w9 w9.drew from (by (first | assumption | (repeat (first | exact Below.refl _ _ | assumption | apply Below.drew | apply below_drewN | (refine Below.setCell ?_ (by (try simp) <;> omega) _) | (refine Below.alloc ?_ (by (try simp) <;> omega) _))))))).trans (hb.mono (by have := HB9.out.size; have := HS9.out.drew.lt; omega))
      obtain ⟨tm, df⟩ := a
      have hd' : df = [] := hd
      subst hd'
      simp only at q4
      rw [Array.getD_eq_getD_getElem?] at q4
      go_wp2_with fail
      go_ret
      exact ⟨by simpa using q4, hBX⟩
end Go.Proofs.YtlhnhdkbfkbafaaDoor

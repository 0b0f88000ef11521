/- What this text proves: the contract of the law RoundQuiet. The conditions are that hashes have 32 bytes, and that the package's empty hash is empty. -/
import Derived.Test.YtlhnhdkbfkbafaaDoorRoundEq
namespace Go.Proofs.YtlhnhdkbfkbafaaDoor
open Go.RowKit
set_option linter.unusedVariables false
set_option linter.unusedSimpArgs false

theorem run_state_eql {o : Oper} {a : Act} {w : World} (x y : Operand) (ty : TypeId) (ho : o.op = .binOp .eql 25 x y ty) (s t : St) (hs : s.good) (ht : t.good) (hx : a.eval x = .agg s.cells.toArray) (hy : a.eval y = .agg t.cells.toArray) :
    (execOp a.eval o).run Tryd.prog w = .ok (.value (.bool (s.same t))) w := by
  unfold execOp
  simp only [ho, hx, hy, Sem.run_bind, Result.andThen_ok, run_eqGuard_agg (P := Tryd.prog) w .eql 25 x y _ _ (by kernel_rfl), state_eql w s t hs ht, Sem.run_pure]
def quietQ (s : St) (i : In) : Prop := (i.round ≠ s.round ∧ i.kind ≠ 1 ∧ i.kind ≠ 9 ∧ i.kind ≠ 8) ∨ i.kind < 1 ∨ 12 < i.kind ∨ i.round < 0
theorem lateF_quiet {s : St} {i : In} (h : i.kind ≠ 7) (h' : i.kind ≠ 12) : lateF s i = (s, none) := by
  unfold lateF
  split
  · rfl
  · rw [if_neg (fun e => h e.1), if_neg (fun e => h' e.1)]
theorem nowF_quiet {s : St} {i : In} (h : i.kind < 1 ∨ 12 < i.kind) : nowF s i = (s, none) := by
  have h1 : lateF s i = (s, none) := lateF_quiet (by omega) (by omega)
  have h2 : lockF s i = (s, none) := by
    unfold lockF
    rw [if_neg (fun e => by have := e.1; omega), h1]
  unfold nowF
  rw [if_neg (show ¬ i.kind = 2 by omega), if_neg (show ¬ i.kind = 3 by omega), if_neg (show ¬ i.kind = 10 by omega), if_neg (show ¬ i.kind = 4 by omega), if_neg (show ¬ (i.kind = 6 ∨ i.kind = 11) by omega), h1, h2]
  repeat' split
  all_goals rfl
theorem stepF_quiet {s : St} {i : In} (h : quietQ s i) : stepF s i = (s, none) := by
  unfold stepF
  split
  · rfl
  · rename_i hn
    rcases h with h | h | h | h
    · rw [if_neg (fun e => h.2.1 e.1), if_neg (fun e => h.2.2.1 e.1), if_neg (fun e => h.2.2.2 e.1), if_neg h.1]
    · rw [if_neg (fun e => by have := e.1; omega), if_neg (fun e => by have := e.1; omega), if_neg (fun e => by have := e.1; omega), nowF_quiet (.inl h)]
      split <;> rfl
    · rw [if_neg (fun e => by have := e.1; omega), if_neg (fun e => by have := e.1; omega), if_neg (fun e => by have := e.1; omega), nowF_quiet (.inr h)]
      split <;> rfl
    · exact absurd (.inl h) hn
theorem outAt_len {w : World} {N : Nat} {v : Value} {oo : Option Out} (h : OutAt w N v oo) : (oo = none ∧ v = .slice none 0 0) ∨ (oo ≠ none ∧ ∃ b, v = .slice (some ⟨b, 0, none⟩) 1 1) := by
  cases oo with
  | none => exact .inl ⟨rfl, h⟩
  | some o =>
    obtain ⟨b, h1, _⟩ := h
    exact .inr ⟨(by simp), b, h1⟩

set_option maxRecDepth 100000 in
set_option maxHeartbeats 4000000 in
theorem quiet_any (s : St) (i : In) (w : World) (hs : s.good) (hi : i.fits) (hn : None0 w) (hg : (stepF s i).1.good) :
    Calls Tryd.prog 9 #[.agg s.cells.toArray, .agg i.cells.toArray] w fun e w' => e = .returned (.bool true) ∧ Below w.heap.size w w' := by
  have hzs := zero_state
  have hcl := In.cells_len hi
  have hsl := St.cells_len hs
  have hrl := St.cells_len hg
  have hzl := St.cells_len St.zero_good
  have hsame : s.same s = true := St.same_iff.2 rfl
  go_enter Tryd.func9, Tryd.ntmps9
  go_upto_region 1 with fail
  have HA0 := Lib.hid (show At ((w.alloc (.cells s.cells.toArray 25)).alloc (.cells i.cells.toArray 27)) w.heap.size (w.heap.size + 1) s i from ⟨(Bk.new w 25 s.cells.toArray).alloc _, by have := Bk.new (w.alloc (.cells s.cells.toArray 25)) 27 i.cells.toArray; simpa using this, World.rangeAt_alloc (World.rangeAt_alloc hn _) _⟩)
  have HB0 := Lib.hid (show Below w.heap.size w ((w.alloc (.cells s.cells.toArray 25)).alloc (.cells i.cells.toArray 27)) from (by (first | assumption | (repeat (first | exact Below.refl _ _ | assumption | apply Below.drew | apply below_drewN | (refine Below.setCell ?_ (by (try simp) <;> omega) _) | (refine Below.alloc ?_ (by (try simp) <;> omega) _))))))
  obtain ⟨w0, hw0⟩ : ∃ w0, (w.alloc (.cells s.cells.toArray 25)).alloc (.cells i.cells.toArray 27) = w0 := ⟨_, rfl⟩
  have hsz : w0.heap.size = w.heap.size + 1 + 1 := by rw [← hw0]; simp
  have hg0 := hn.size
  obtain ⟨gs, hgs⟩ : ∃ gs, w.heap.size = gs := ⟨_, rfl⟩
  rw [hw0] at HA0 HB0 ⊢
  rw [hgs] at HA0 HB0 hsz hg0 ⊢
  obtain ⟨gi, hgi⟩ : ∃ gi, gs + 1 = gi := ⟨_, rfl⟩
  rw [hgi] at HA0 hsz ⊢
  have HNN : Hid (None0 w0) := Lib.hid HA0.out.N
  clear hw0 hn
  have rS := HA0.out.S.all
  have rI := HA0.out.I.all
  go_wp2_with (first | (refine wpList_val (by rfl) (run_load_seg 25 _ (by with_reducible rfl) _ _ (by rfl) _ (by assumption) 102 (by assumption) _ Tryd.underlying25 (by rfl) hi_state) ?_) | (refine wpList_val (by rfl) (run_load_seg 27 _ (by with_reducible rfl) _ _ (by rfl) _ (by assumption) 68 (by assumption) _ Tryd.underlying27 (by rfl) hi_input) ?_))
  with_reducible refine (step_any s i w0 hs hi HNN.out).mono ?_
  rintro e w2 ⟨v, rfl, ho, hb2⟩
  clear rS rI
  obtain ⟨r1, hr1⟩ : ∃ r1, (stepF s i).1 = r1 := ⟨_, rfl⟩
  obtain ⟨r2, hr2⟩ : ∃ r2, (stepF s i).2 = r2 := ⟨_, rfl⟩
  have hr : stepF s i = (r1, r2) := by rw [← hr1, ← hr2]
  rw [hr2] at ho
  rw [hr1] at hg hrl
  simp only [hr1]
  have hlen := outAt_len ho
  have HA2 : Hid (At w2 gs gi s i) := Lib.hid ⟨HA0.out.S.below hb2 (by omega), HA0.out.I.below hb2 (by omega), rangeAt_below HA0.out.N hb2 (by omega)⟩
  have hz2 := hb2.size
  have HB2 : Hid (Below gs w w2) := Lib.hid (HB0.out.trans (hb2.mono (by omega)))
  clear ho hb2 hr1 hr2
  have hR := Bk.new w2 25 St.zero.cells.toArray
  obtain ⟨gr, hgr⟩ : ∃ gr, w2.heap.size = gr := ⟨_, rfl⟩
  rw [hgr] at hR hz2
  have HR := Lib.hid hR
  clear hR
  go_upto_region 2 with (refine wpList_puts (by rfl) 25 _ _ (by with_reducible rfl) gr 0 (by rfl) r1.cells (by rfl) 25 St.zero.cells (by exact HR.out) 102 hrl (by rw [hzl]; omega) hi_state St.one_cells ?_; intro w7 hb7 hm7 hz7; rw [put_all (by rw [hzl, hrl])] at hb7; have HR7 := Lib.hid hb7; have HM7 := Lib.hid hm7; clear hb7 hm7)
  have HA7 : Hid (At w7 gs gi s i) := Lib.hid ⟨HM7.out.bk (HA2.out.S.alloc _) (by omega), HM7.out.bk (HA2.out.I.alloc _) (by omega), rangeAt_moves (World.rangeAt_alloc HA2.out.N _) HM7.out (fun _ => by omega)⟩
  have hs7 : gs ≤ w7.heap.size := by have := HA7.out.S.lt; omega
  have hr7 := HR7.out.lt
  have HB7 : Hid (Below gs w w7) := Lib.hid (by
    have h3 := HB2.out.alloc (by omega) (.cells St.zero.cells.toArray 25)
    exact h3.trans (HM7.out.to_below (by have := HB2.out.size; simp; omega) (fun k _ e => by omega)))
  have HN7 : Hid (None0 w7) := Lib.hid HA7.out.N
  have HH := Lib.hid hr
  clear HA0 HB0 HNN HA2 HB2 HR HM7 hr
  obtain ⟨c0, c1, c2, c34, c35, c67, c68, c100, c101⟩ := st_out HA7.out.S hs
  obtain ⟨d0, d1, d2, d34, d35, d36⟩ := in_out HA7.out.I hi
  clear c1 c2 c34 c35 c67 c68 c100 c101 d2 d34 d35 d36
  by_cases kl : i.kind < 1
  · have e1 : decide (1 ≤ i.kind) = false := by simp; omega
    have en1 : (i.kind != 1) = true := by simp; omega
    have en9 : (i.kind != 9) = true := by simp; omega
    have en8 : (i.kind != 8) = true := by simp; omega
    by_cases hq : i.round = s.round
    · skip
      by_cases hng : i.round < 0
      · have eng : decide (i.round < 0) = true := by simpa using hng
        have eng2 : decide (s.round < 0) = true := by rw [← hq]; exact eng
        obtain ⟨rfl, hv⟩ : r1 = s ∧ v = .slice none 0 0 := by
          have e := HH.out.symm.trans (stepF_quiet (.inr (.inl kl)))
          rw [Prod.mk.injEq] at e
          rcases hlen with h | h
          · exact ⟨e.1, h.2⟩
          · exact absurd e.2 h.1
        subst hv
        clear hlen
        go_wp2_with fail
        with_reducible refine (alive_any w7 HN7.out).mono ?_
        rintro e w8 ⟨rfl, hb8⟩
        have q1 := rangeAt_below HR7.out.all hb8 (by omega)
        have q2 := rangeAt_below HA7.out.S.all hb8 (by omega)
        have HB8 := Lib.hid hb8
        clear hb8
        go_wp2_with (first | (refine wpList_val (by rfl) (run_load_seg 25 _ (by with_reducible rfl) _ _ (by rfl) _ (by assumption) 102 (by assumption) _ Tryd.underlying25 (by rfl) hi_state) ?_) | (refine wpList_val (by rfl) (run_state_eql _ _ _ (by with_reducible rfl) _ _ hs hs (by rfl) (by rfl)) ?_))
        go_ret
        exact ⟨rfl, by rw [hgs]; exact HB7.out.trans (HB8.out.mono hs7)⟩
      · have eng : decide (i.round < 0) = false := by simpa using hng
        have eng2 : decide (s.round < 0) = false := by rw [← hq]; exact eng
        obtain ⟨rfl, hv⟩ : r1 = s ∧ v = .slice none 0 0 := by
          have e := HH.out.symm.trans (stepF_quiet (.inr (.inl kl)))
          rw [Prod.mk.injEq] at e
          rcases hlen with h | h
          · exact ⟨e.1, h.2⟩
          · exact absurd e.2 h.1
        subst hv
        clear hlen
        go_wp2_with fail
        with_reducible refine (alive_any w7 HN7.out).mono ?_
        rintro e w8 ⟨rfl, hb8⟩
        have q1 := rangeAt_below HR7.out.all hb8 (by omega)
        have q2 := rangeAt_below HA7.out.S.all hb8 (by omega)
        have HB8 := Lib.hid hb8
        clear hb8
        go_wp2_with (first | (refine wpList_val (by rfl) (run_load_seg 25 _ (by with_reducible rfl) _ _ (by rfl) _ (by assumption) 102 (by assumption) _ Tryd.underlying25 (by rfl) hi_state) ?_) | (refine wpList_val (by rfl) (run_state_eql _ _ _ (by with_reducible rfl) _ _ hs hs (by rfl) (by rfl)) ?_))
        go_ret
        exact ⟨rfl, by rw [hgs]; exact HB7.out.trans (HB8.out.mono hs7)⟩
    · have eq : (i.round != s.round) = true := by simpa using hq
      by_cases hng : i.round < 0
      · have eng : decide (i.round < 0) = true := by simpa using hng
        obtain ⟨rfl, hv⟩ : r1 = s ∧ v = .slice none 0 0 := by
          have e := HH.out.symm.trans (stepF_quiet (.inr (.inl kl)))
          rw [Prod.mk.injEq] at e
          rcases hlen with h | h
          · exact ⟨e.1, h.2⟩
          · exact absurd e.2 h.1
        subst hv
        clear hlen
        go_wp2_with fail
        with_reducible refine (alive_any w7 HN7.out).mono ?_
        rintro e w8 ⟨rfl, hb8⟩
        have q1 := rangeAt_below HR7.out.all hb8 (by omega)
        have q2 := rangeAt_below HA7.out.S.all hb8 (by omega)
        have HB8 := Lib.hid hb8
        clear hb8
        go_wp2_with (first | (refine wpList_val (by rfl) (run_load_seg 25 _ (by with_reducible rfl) _ _ (by rfl) _ (by assumption) 102 (by assumption) _ Tryd.underlying25 (by rfl) hi_state) ?_) | (refine wpList_val (by rfl) (run_state_eql _ _ _ (by with_reducible rfl) _ _ hs hs (by rfl) (by rfl)) ?_))
        go_ret
        exact ⟨rfl, by rw [hgs]; exact HB7.out.trans (HB8.out.mono hs7)⟩
      · have eng : decide (i.round < 0) = false := by simpa using hng
        obtain ⟨rfl, hv⟩ : r1 = s ∧ v = .slice none 0 0 := by
          have e := HH.out.symm.trans (stepF_quiet (.inr (.inl kl)))
          rw [Prod.mk.injEq] at e
          rcases hlen with h | h
          · exact ⟨e.1, h.2⟩
          · exact absurd e.2 h.1
        subst hv
        clear hlen
        go_wp2_with fail
        with_reducible refine (alive_any w7 HN7.out).mono ?_
        rintro e w8 ⟨rfl, hb8⟩
        have q1 := rangeAt_below HR7.out.all hb8 (by omega)
        have q2 := rangeAt_below HA7.out.S.all hb8 (by omega)
        have HB8 := Lib.hid hb8
        clear hb8
        go_wp2_with (first | (refine wpList_val (by rfl) (run_load_seg 25 _ (by with_reducible rfl) _ _ (by rfl) _ (by assumption) 102 (by assumption) _ Tryd.underlying25 (by rfl) hi_state) ?_) | (refine wpList_val (by rfl) (run_state_eql _ _ _ (by with_reducible rfl) _ _ hs hs (by rfl) (by rfl)) ?_))
        go_ret
        exact ⟨rfl, by rw [hgs]; exact HB7.out.trans (HB8.out.mono hs7)⟩
  have e1 : decide (1 ≤ i.kind) = true := by simp; omega
  by_cases kg : 12 < i.kind
  · have e2 : decide (i.kind ≤ 12) = false := by simp; omega
    have en1 : (i.kind != 1) = true := by simp; omega
    have en9 : (i.kind != 9) = true := by simp; omega
    have en8 : (i.kind != 8) = true := by simp; omega
    by_cases hq : i.round = s.round
    · skip
      by_cases hng : i.round < 0
      · have eng : decide (i.round < 0) = true := by simpa using hng
        have eng2 : decide (s.round < 0) = true := by rw [← hq]; exact eng
        obtain ⟨rfl, hv⟩ : r1 = s ∧ v = .slice none 0 0 := by
          have e := HH.out.symm.trans (stepF_quiet (.inr (.inr (.inl kg))))
          rw [Prod.mk.injEq] at e
          rcases hlen with h | h
          · exact ⟨e.1, h.2⟩
          · exact absurd e.2 h.1
        subst hv
        clear hlen
        go_wp2_with fail
        with_reducible refine (alive_any w7 HN7.out).mono ?_
        rintro e w8 ⟨rfl, hb8⟩
        have q1 := rangeAt_below HR7.out.all hb8 (by omega)
        have q2 := rangeAt_below HA7.out.S.all hb8 (by omega)
        have HB8 := Lib.hid hb8
        clear hb8
        go_wp2_with (first | (refine wpList_val (by rfl) (run_load_seg 25 _ (by with_reducible rfl) _ _ (by rfl) _ (by assumption) 102 (by assumption) _ Tryd.underlying25 (by rfl) hi_state) ?_) | (refine wpList_val (by rfl) (run_state_eql _ _ _ (by with_reducible rfl) _ _ hs hs (by rfl) (by rfl)) ?_))
        go_ret
        exact ⟨rfl, by rw [hgs]; exact HB7.out.trans (HB8.out.mono hs7)⟩
      · have eng : decide (i.round < 0) = false := by simpa using hng
        have eng2 : decide (s.round < 0) = false := by rw [← hq]; exact eng
        obtain ⟨rfl, hv⟩ : r1 = s ∧ v = .slice none 0 0 := by
          have e := HH.out.symm.trans (stepF_quiet (.inr (.inr (.inl kg))))
          rw [Prod.mk.injEq] at e
          rcases hlen with h | h
          · exact ⟨e.1, h.2⟩
          · exact absurd e.2 h.1
        subst hv
        clear hlen
        go_wp2_with fail
        with_reducible refine (alive_any w7 HN7.out).mono ?_
        rintro e w8 ⟨rfl, hb8⟩
        have q1 := rangeAt_below HR7.out.all hb8 (by omega)
        have q2 := rangeAt_below HA7.out.S.all hb8 (by omega)
        have HB8 := Lib.hid hb8
        clear hb8
        go_wp2_with (first | (refine wpList_val (by rfl) (run_load_seg 25 _ (by with_reducible rfl) _ _ (by rfl) _ (by assumption) 102 (by assumption) _ Tryd.underlying25 (by rfl) hi_state) ?_) | (refine wpList_val (by rfl) (run_state_eql _ _ _ (by with_reducible rfl) _ _ hs hs (by rfl) (by rfl)) ?_))
        go_ret
        exact ⟨rfl, by rw [hgs]; exact HB7.out.trans (HB8.out.mono hs7)⟩
    · have eq : (i.round != s.round) = true := by simpa using hq
      by_cases hng : i.round < 0
      · have eng : decide (i.round < 0) = true := by simpa using hng
        obtain ⟨rfl, hv⟩ : r1 = s ∧ v = .slice none 0 0 := by
          have e := HH.out.symm.trans (stepF_quiet (.inr (.inr (.inl kg))))
          rw [Prod.mk.injEq] at e
          rcases hlen with h | h
          · exact ⟨e.1, h.2⟩
          · exact absurd e.2 h.1
        subst hv
        clear hlen
        go_wp2_with fail
        with_reducible refine (alive_any w7 HN7.out).mono ?_
        rintro e w8 ⟨rfl, hb8⟩
        have q1 := rangeAt_below HR7.out.all hb8 (by omega)
        have q2 := rangeAt_below HA7.out.S.all hb8 (by omega)
        have HB8 := Lib.hid hb8
        clear hb8
        go_wp2_with (first | (refine wpList_val (by rfl) (run_load_seg 25 _ (by with_reducible rfl) _ _ (by rfl) _ (by assumption) 102 (by assumption) _ Tryd.underlying25 (by rfl) hi_state) ?_) | (refine wpList_val (by rfl) (run_state_eql _ _ _ (by with_reducible rfl) _ _ hs hs (by rfl) (by rfl)) ?_))
        go_ret
        exact ⟨rfl, by rw [hgs]; exact HB7.out.trans (HB8.out.mono hs7)⟩
      · have eng : decide (i.round < 0) = false := by simpa using hng
        obtain ⟨rfl, hv⟩ : r1 = s ∧ v = .slice none 0 0 := by
          have e := HH.out.symm.trans (stepF_quiet (.inr (.inr (.inl kg))))
          rw [Prod.mk.injEq] at e
          rcases hlen with h | h
          · exact ⟨e.1, h.2⟩
          · exact absurd e.2 h.1
        subst hv
        clear hlen
        go_wp2_with fail
        with_reducible refine (alive_any w7 HN7.out).mono ?_
        rintro e w8 ⟨rfl, hb8⟩
        have q1 := rangeAt_below HR7.out.all hb8 (by omega)
        have q2 := rangeAt_below HA7.out.S.all hb8 (by omega)
        have HB8 := Lib.hid hb8
        clear hb8
        go_wp2_with (first | (refine wpList_val (by rfl) (run_load_seg 25 _ (by with_reducible rfl) _ _ (by rfl) _ (by assumption) 102 (by assumption) _ Tryd.underlying25 (by rfl) hi_state) ?_) | (refine wpList_val (by rfl) (run_state_eql _ _ _ (by with_reducible rfl) _ _ hs hs (by rfl) (by rfl)) ?_))
        go_ret
        exact ⟨rfl, by rw [hgs]; exact HB7.out.trans (HB8.out.mono hs7)⟩
  have e2 : decide (i.kind ≤ 12) = true := by simp; omega
  by_cases k1 : i.kind = 1
  · skip
    by_cases hq : i.round = s.round
    · skip
      by_cases hng : i.round < 0
      · have eng : decide (i.round < 0) = true := by simpa using hng
        have eng2 : decide (s.round < 0) = true := by rw [← hq]; exact eng
        obtain ⟨rfl, hv⟩ : r1 = s ∧ v = .slice none 0 0 := by
          have e := HH.out.symm.trans (stepF_quiet (.inr (.inr (.inr hng))))
          rw [Prod.mk.injEq] at e
          rcases hlen with h | h
          · exact ⟨e.1, h.2⟩
          · exact absurd e.2 h.1
        subst hv
        clear hlen
        go_wp2_with fail
        with_reducible refine (alive_any w7 HN7.out).mono ?_
        rintro e w8 ⟨rfl, hb8⟩
        have q1 := rangeAt_below HR7.out.all hb8 (by omega)
        have q2 := rangeAt_below HA7.out.S.all hb8 (by omega)
        have HB8 := Lib.hid hb8
        clear hb8
        go_wp2_with (first | (refine wpList_val (by rfl) (run_load_seg 25 _ (by with_reducible rfl) _ _ (by rfl) _ (by assumption) 102 (by assumption) _ Tryd.underlying25 (by rfl) hi_state) ?_) | (refine wpList_val (by rfl) (run_state_eql _ _ _ (by with_reducible rfl) _ _ hs hs (by rfl) (by rfl)) ?_))
        go_ret
        exact ⟨rfl, by rw [hgs]; exact HB7.out.trans (HB8.out.mono hs7)⟩
      · have eng : decide (i.round < 0) = false := by simpa using hng
        have eng2 : decide (s.round < 0) = false := by rw [← hq]; exact eng
        rcases hlen with ⟨_, rfl⟩ | ⟨_, b, rfl⟩
        · go_wp2_with fail
          with_reducible refine (alive_any w7 HN7.out).mono ?_
          rintro e w8 ⟨rfl, hb8⟩
          have HB8 := Lib.hid hb8
          clear hb8
          go_wp2_with fail
          go_ret
          exact ⟨rfl, by rw [hgs]; exact HB7.out.trans (HB8.out.mono hs7)⟩
        · go_wp2_with fail
          with_reducible refine (alive_any w7 HN7.out).mono ?_
          rintro e w8 ⟨rfl, hb8⟩
          have HB8 := Lib.hid hb8
          clear hb8
          go_wp2_with fail
          go_ret
          exact ⟨rfl, by rw [hgs]; exact HB7.out.trans (HB8.out.mono hs7)⟩
    · have eq : (i.round != s.round) = true := by simpa using hq
      by_cases hng : i.round < 0
      · have eng : decide (i.round < 0) = true := by simpa using hng
        obtain ⟨rfl, hv⟩ : r1 = s ∧ v = .slice none 0 0 := by
          have e := HH.out.symm.trans (stepF_quiet (.inr (.inr (.inr hng))))
          rw [Prod.mk.injEq] at e
          rcases hlen with h | h
          · exact ⟨e.1, h.2⟩
          · exact absurd e.2 h.1
        subst hv
        clear hlen
        go_wp2_with fail
        with_reducible refine (alive_any w7 HN7.out).mono ?_
        rintro e w8 ⟨rfl, hb8⟩
        have q1 := rangeAt_below HR7.out.all hb8 (by omega)
        have q2 := rangeAt_below HA7.out.S.all hb8 (by omega)
        have HB8 := Lib.hid hb8
        clear hb8
        go_wp2_with (first | (refine wpList_val (by rfl) (run_load_seg 25 _ (by with_reducible rfl) _ _ (by rfl) _ (by assumption) 102 (by assumption) _ Tryd.underlying25 (by rfl) hi_state) ?_) | (refine wpList_val (by rfl) (run_state_eql _ _ _ (by with_reducible rfl) _ _ hs hs (by rfl) (by rfl)) ?_))
        go_ret
        exact ⟨rfl, by rw [hgs]; exact HB7.out.trans (HB8.out.mono hs7)⟩
      · have eng : decide (i.round < 0) = false := by simpa using hng
        rcases hlen with ⟨_, rfl⟩ | ⟨_, b, rfl⟩
        · go_wp2_with fail
          with_reducible refine (alive_any w7 HN7.out).mono ?_
          rintro e w8 ⟨rfl, hb8⟩
          have HB8 := Lib.hid hb8
          clear hb8
          go_wp2_with fail
          go_ret
          exact ⟨rfl, by rw [hgs]; exact HB7.out.trans (HB8.out.mono hs7)⟩
        · go_wp2_with fail
          with_reducible refine (alive_any w7 HN7.out).mono ?_
          rintro e w8 ⟨rfl, hb8⟩
          have HB8 := Lib.hid hb8
          clear hb8
          go_wp2_with fail
          go_ret
          exact ⟨rfl, by rw [hgs]; exact HB7.out.trans (HB8.out.mono hs7)⟩
  by_cases k9 : i.kind = 9
  · skip
    by_cases hq : i.round = s.round
    · skip
      by_cases hng : i.round < 0
      · have eng : decide (i.round < 0) = true := by simpa using hng
        have eng2 : decide (s.round < 0) = true := by rw [← hq]; exact eng
        obtain ⟨rfl, hv⟩ : r1 = s ∧ v = .slice none 0 0 := by
          have e := HH.out.symm.trans (stepF_quiet (.inr (.inr (.inr hng))))
          rw [Prod.mk.injEq] at e
          rcases hlen with h | h
          · exact ⟨e.1, h.2⟩
          · exact absurd e.2 h.1
        subst hv
        clear hlen
        go_wp2_with fail
        with_reducible refine (alive_any w7 HN7.out).mono ?_
        rintro e w8 ⟨rfl, hb8⟩
        have q1 := rangeAt_below HR7.out.all hb8 (by omega)
        have q2 := rangeAt_below HA7.out.S.all hb8 (by omega)
        have HB8 := Lib.hid hb8
        clear hb8
        go_wp2_with (first | (refine wpList_val (by rfl) (run_load_seg 25 _ (by with_reducible rfl) _ _ (by rfl) _ (by assumption) 102 (by assumption) _ Tryd.underlying25 (by rfl) hi_state) ?_) | (refine wpList_val (by rfl) (run_state_eql _ _ _ (by with_reducible rfl) _ _ hs hs (by rfl) (by rfl)) ?_))
        go_ret
        exact ⟨rfl, by rw [hgs]; exact HB7.out.trans (HB8.out.mono hs7)⟩
      · have eng : decide (i.round < 0) = false := by simpa using hng
        have eng2 : decide (s.round < 0) = false := by rw [← hq]; exact eng
        rcases hlen with ⟨_, rfl⟩ | ⟨_, b, rfl⟩
        · go_wp2_with fail
          with_reducible refine (alive_any w7 HN7.out).mono ?_
          rintro e w8 ⟨rfl, hb8⟩
          have HB8 := Lib.hid hb8
          clear hb8
          go_wp2_with fail
          go_ret
          exact ⟨rfl, by rw [hgs]; exact HB7.out.trans (HB8.out.mono hs7)⟩
        · go_wp2_with fail
          with_reducible refine (alive_any w7 HN7.out).mono ?_
          rintro e w8 ⟨rfl, hb8⟩
          have HB8 := Lib.hid hb8
          clear hb8
          go_wp2_with fail
          go_ret
          exact ⟨rfl, by rw [hgs]; exact HB7.out.trans (HB8.out.mono hs7)⟩
    · have eq : (i.round != s.round) = true := by simpa using hq
      by_cases hng : i.round < 0
      · have eng : decide (i.round < 0) = true := by simpa using hng
        obtain ⟨rfl, hv⟩ : r1 = s ∧ v = .slice none 0 0 := by
          have e := HH.out.symm.trans (stepF_quiet (.inr (.inr (.inr hng))))
          rw [Prod.mk.injEq] at e
          rcases hlen with h | h
          · exact ⟨e.1, h.2⟩
          · exact absurd e.2 h.1
        subst hv
        clear hlen
        go_wp2_with fail
        with_reducible refine (alive_any w7 HN7.out).mono ?_
        rintro e w8 ⟨rfl, hb8⟩
        have q1 := rangeAt_below HR7.out.all hb8 (by omega)
        have q2 := rangeAt_below HA7.out.S.all hb8 (by omega)
        have HB8 := Lib.hid hb8
        clear hb8
        go_wp2_with (first | (refine wpList_val (by rfl) (run_load_seg 25 _ (by with_reducible rfl) _ _ (by rfl) _ (by assumption) 102 (by assumption) _ Tryd.underlying25 (by rfl) hi_state) ?_) | (refine wpList_val (by rfl) (run_state_eql _ _ _ (by with_reducible rfl) _ _ hs hs (by rfl) (by rfl)) ?_))
        go_ret
        exact ⟨rfl, by rw [hgs]; exact HB7.out.trans (HB8.out.mono hs7)⟩
      · have eng : decide (i.round < 0) = false := by simpa using hng
        rcases hlen with ⟨_, rfl⟩ | ⟨_, b, rfl⟩
        · go_wp2_with fail
          with_reducible refine (alive_any w7 HN7.out).mono ?_
          rintro e w8 ⟨rfl, hb8⟩
          have HB8 := Lib.hid hb8
          clear hb8
          go_wp2_with fail
          go_ret
          exact ⟨rfl, by rw [hgs]; exact HB7.out.trans (HB8.out.mono hs7)⟩
        · go_wp2_with fail
          with_reducible refine (alive_any w7 HN7.out).mono ?_
          rintro e w8 ⟨rfl, hb8⟩
          have HB8 := Lib.hid hb8
          clear hb8
          go_wp2_with fail
          go_ret
          exact ⟨rfl, by rw [hgs]; exact HB7.out.trans (HB8.out.mono hs7)⟩
  by_cases k8 : i.kind = 8
  · skip
    by_cases hq : i.round = s.round
    · skip
      by_cases hng : i.round < 0
      · have eng : decide (i.round < 0) = true := by simpa using hng
        have eng2 : decide (s.round < 0) = true := by rw [← hq]; exact eng
        obtain ⟨rfl, hv⟩ : r1 = s ∧ v = .slice none 0 0 := by
          have e := HH.out.symm.trans (stepF_quiet (.inr (.inr (.inr hng))))
          rw [Prod.mk.injEq] at e
          rcases hlen with h | h
          · exact ⟨e.1, h.2⟩
          · exact absurd e.2 h.1
        subst hv
        clear hlen
        go_wp2_with fail
        with_reducible refine (alive_any w7 HN7.out).mono ?_
        rintro e w8 ⟨rfl, hb8⟩
        have q1 := rangeAt_below HR7.out.all hb8 (by omega)
        have q2 := rangeAt_below HA7.out.S.all hb8 (by omega)
        have HB8 := Lib.hid hb8
        clear hb8
        go_wp2_with (first | (refine wpList_val (by rfl) (run_load_seg 25 _ (by with_reducible rfl) _ _ (by rfl) _ (by assumption) 102 (by assumption) _ Tryd.underlying25 (by rfl) hi_state) ?_) | (refine wpList_val (by rfl) (run_state_eql _ _ _ (by with_reducible rfl) _ _ hs hs (by rfl) (by rfl)) ?_))
        go_ret
        exact ⟨rfl, by rw [hgs]; exact HB7.out.trans (HB8.out.mono hs7)⟩
      · have eng : decide (i.round < 0) = false := by simpa using hng
        have eng2 : decide (s.round < 0) = false := by rw [← hq]; exact eng
        rcases hlen with ⟨_, rfl⟩ | ⟨_, b, rfl⟩
        · go_wp2_with fail
          with_reducible refine (alive_any w7 HN7.out).mono ?_
          rintro e w8 ⟨rfl, hb8⟩
          have HB8 := Lib.hid hb8
          clear hb8
          go_wp2_with fail
          go_ret
          exact ⟨rfl, by rw [hgs]; exact HB7.out.trans (HB8.out.mono hs7)⟩
        · go_wp2_with fail
          with_reducible refine (alive_any w7 HN7.out).mono ?_
          rintro e w8 ⟨rfl, hb8⟩
          have HB8 := Lib.hid hb8
          clear hb8
          go_wp2_with fail
          go_ret
          exact ⟨rfl, by rw [hgs]; exact HB7.out.trans (HB8.out.mono hs7)⟩
    · have eq : (i.round != s.round) = true := by simpa using hq
      by_cases hng : i.round < 0
      · have eng : decide (i.round < 0) = true := by simpa using hng
        obtain ⟨rfl, hv⟩ : r1 = s ∧ v = .slice none 0 0 := by
          have e := HH.out.symm.trans (stepF_quiet (.inr (.inr (.inr hng))))
          rw [Prod.mk.injEq] at e
          rcases hlen with h | h
          · exact ⟨e.1, h.2⟩
          · exact absurd e.2 h.1
        subst hv
        clear hlen
        go_wp2_with fail
        with_reducible refine (alive_any w7 HN7.out).mono ?_
        rintro e w8 ⟨rfl, hb8⟩
        have q1 := rangeAt_below HR7.out.all hb8 (by omega)
        have q2 := rangeAt_below HA7.out.S.all hb8 (by omega)
        have HB8 := Lib.hid hb8
        clear hb8
        go_wp2_with (first | (refine wpList_val (by rfl) (run_load_seg 25 _ (by with_reducible rfl) _ _ (by rfl) _ (by assumption) 102 (by assumption) _ Tryd.underlying25 (by rfl) hi_state) ?_) | (refine wpList_val (by rfl) (run_state_eql _ _ _ (by with_reducible rfl) _ _ hs hs (by rfl) (by rfl)) ?_))
        go_ret
        exact ⟨rfl, by rw [hgs]; exact HB7.out.trans (HB8.out.mono hs7)⟩
      · have eng : decide (i.round < 0) = false := by simpa using hng
        rcases hlen with ⟨_, rfl⟩ | ⟨_, b, rfl⟩
        · go_wp2_with fail
          with_reducible refine (alive_any w7 HN7.out).mono ?_
          rintro e w8 ⟨rfl, hb8⟩
          have HB8 := Lib.hid hb8
          clear hb8
          go_wp2_with fail
          go_ret
          exact ⟨rfl, by rw [hgs]; exact HB7.out.trans (HB8.out.mono hs7)⟩
        · go_wp2_with fail
          with_reducible refine (alive_any w7 HN7.out).mono ?_
          rintro e w8 ⟨rfl, hb8⟩
          have HB8 := Lib.hid hb8
          clear hb8
          go_wp2_with fail
          go_ret
          exact ⟨rfl, by rw [hgs]; exact HB7.out.trans (HB8.out.mono hs7)⟩
  have en1 : (i.kind != 1) = true := by simp; omega
  have en9 : (i.kind != 9) = true := by simp; omega
  have en8 : (i.kind != 8) = true := by simp; omega
  by_cases hq : i.round = s.round
  · skip
    by_cases hng : i.round < 0
    · have eng : decide (i.round < 0) = true := by simpa using hng
      have eng2 : decide (s.round < 0) = true := by rw [← hq]; exact eng
      obtain ⟨rfl, hv⟩ : r1 = s ∧ v = .slice none 0 0 := by
        have e := HH.out.symm.trans (stepF_quiet (.inr (.inr (.inr hng))))
        rw [Prod.mk.injEq] at e
        rcases hlen with h | h
        · exact ⟨e.1, h.2⟩
        · exact absurd e.2 h.1
      subst hv
      clear hlen
      go_wp2_with fail
      with_reducible refine (alive_any w7 HN7.out).mono ?_
      rintro e w8 ⟨rfl, hb8⟩
      have q1 := rangeAt_below HR7.out.all hb8 (by omega)
      have q2 := rangeAt_below HA7.out.S.all hb8 (by omega)
      have HB8 := Lib.hid hb8
      clear hb8
      go_wp2_with (first | (refine wpList_val (by rfl) (run_load_seg 25 _ (by with_reducible rfl) _ _ (by rfl) _ (by assumption) 102 (by assumption) _ Tryd.underlying25 (by rfl) hi_state) ?_) | (refine wpList_val (by rfl) (run_state_eql _ _ _ (by with_reducible rfl) _ _ hs hs (by rfl) (by rfl)) ?_))
      go_ret
      exact ⟨rfl, by rw [hgs]; exact HB7.out.trans (HB8.out.mono hs7)⟩
    · have eng : decide (i.round < 0) = false := by simpa using hng
      have eng2 : decide (s.round < 0) = false := by rw [← hq]; exact eng
      rcases hlen with ⟨_, rfl⟩ | ⟨_, b, rfl⟩
      · go_wp2_with fail
        with_reducible refine (alive_any w7 HN7.out).mono ?_
        rintro e w8 ⟨rfl, hb8⟩
        have HB8 := Lib.hid hb8
        clear hb8
        go_wp2_with fail
        go_ret
        exact ⟨rfl, by rw [hgs]; exact HB7.out.trans (HB8.out.mono hs7)⟩
      · go_wp2_with fail
        with_reducible refine (alive_any w7 HN7.out).mono ?_
        rintro e w8 ⟨rfl, hb8⟩
        have HB8 := Lib.hid hb8
        clear hb8
        go_wp2_with fail
        go_ret
        exact ⟨rfl, by rw [hgs]; exact HB7.out.trans (HB8.out.mono hs7)⟩
  · have eq : (i.round != s.round) = true := by simpa using hq
    by_cases hng : i.round < 0
    · have eng : decide (i.round < 0) = true := by simpa using hng
      obtain ⟨rfl, hv⟩ : r1 = s ∧ v = .slice none 0 0 := by
        have e := HH.out.symm.trans (stepF_quiet (.inr (.inr (.inr hng))))
        rw [Prod.mk.injEq] at e
        rcases hlen with h | h
        · exact ⟨e.1, h.2⟩
        · exact absurd e.2 h.1
      subst hv
      clear hlen
      go_wp2_with fail
      with_reducible refine (alive_any w7 HN7.out).mono ?_
      rintro e w8 ⟨rfl, hb8⟩
      have q1 := rangeAt_below HR7.out.all hb8 (by omega)
      have q2 := rangeAt_below HA7.out.S.all hb8 (by omega)
      have HB8 := Lib.hid hb8
      clear hb8
      go_wp2_with (first | (refine wpList_val (by rfl) (run_load_seg 25 _ (by with_reducible rfl) _ _ (by rfl) _ (by assumption) 102 (by assumption) _ Tryd.underlying25 (by rfl) hi_state) ?_) | (refine wpList_val (by rfl) (run_state_eql _ _ _ (by with_reducible rfl) _ _ hs hs (by rfl) (by rfl)) ?_))
      go_ret
      exact ⟨rfl, by rw [hgs]; exact HB7.out.trans (HB8.out.mono hs7)⟩
    · have eng : decide (i.round < 0) = false := by simpa using hng
      obtain ⟨rfl, hv⟩ : r1 = s ∧ v = .slice none 0 0 := by
        have e := HH.out.symm.trans (stepF_quiet (.inl ⟨hq, k1, k9, k8⟩))
        rw [Prod.mk.injEq] at e
        rcases hlen with h | h
        · exact ⟨e.1, h.2⟩
        · exact absurd e.2 h.1
      subst hv
      clear hlen
      go_wp2_with fail
      with_reducible refine (alive_any w7 HN7.out).mono ?_
      rintro e w8 ⟨rfl, hb8⟩
      have q1 := rangeAt_below HR7.out.all hb8 (by omega)
      have q2 := rangeAt_below HA7.out.S.all hb8 (by omega)
      have HB8 := Lib.hid hb8
      clear hb8
      go_wp2_with (first | (refine wpList_val (by rfl) (run_load_seg 25 _ (by with_reducible rfl) _ _ (by rfl) _ (by assumption) 102 (by assumption) _ Tryd.underlying25 (by rfl) hi_state) ?_) | (refine wpList_val (by rfl) (run_state_eql _ _ _ (by with_reducible rfl) _ _ hs hs (by rfl) (by rfl)) ?_))
      go_ret
      exact ⟨rfl, by rw [hgs]; exact HB7.out.trans (HB8.out.mono hs7)⟩
end Go.Proofs.YtlhnhdkbfkbafaaDoor

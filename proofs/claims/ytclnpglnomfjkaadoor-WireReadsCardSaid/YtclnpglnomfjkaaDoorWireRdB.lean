/- What this text proves: the contracts of the wire.Reader's inner readings, and of what catches a missing field. The conditions are how the reader lies in memory. -/
import Derived.Test.YtclnpglnomfjkaaDoorWireRdA
import Derived.Defers
import Derived.Recover
import Derived.Laws.Pointers
namespace Go.Proofs.YtclnpglnomfjkaaDoor
open Go.RowKit Go.Shelf
set_option linter.unusedVariables false
set_option linter.unusedSimpArgs false

/-- What a reading does: the value and what is left, or nothing. -/
def DoP (w : World) (g : Nat) (r : Option (Value × List UInt8)) (e : Ending) (w' : World) : Prop :=
  w.grownBy w' (some g) ∧ match r with
    | some x => e = .returned x.1 ∧ Rs w' g x.2 false
    | none => ∃ l', e = .panicked missed ∧ Rs w' g l' false
def ReadP (w : World) (g : Nat) (r : Option (Value × List UInt8)) (zero : Value) (e : Ending) (w' : World) : Prop :=
  w.grownBy w' (some g) ∧ match r with
    | some x => e = .returned x.1 ∧ Rs w' g x.2 false
    | none => ∃ l', e = .returned zero ∧ Rs w' g l' true
def wordR (l : List UInt8) : Option (Value × List UInt8) := if 8 ≤ l.length then some (.int .u64 (beN (l.take 8) : Nat), l.drop 8) else none
theorem w_some {v : Value} {l l' : List UInt8} (h : wordR l = some (v, l')) : ∃ x : Int, v = .int .u64 x := by
  unfold wordR at h
  split at h
  · simp only [Option.some.injEq, Prod.mk.injEq] at h
    exact ⟨_, h.1.symm⟩
  · cases h

set_option maxHeartbeats 1000000 in
theorem wordC (g b : Nat) (l : List UInt8) (w : World) (h : Rs w g l false) (hb : w.cell? ⟨b, 0, none⟩ = some (.pointer (some ⟨g, 0, none⟩))) :
    Calls Tryd.prog 39 #[.pointer (some ⟨b, 0, none⟩)] w (DoP w g (wordR l)) := by
  by_cases hs : 8 ≤ l.length
  · have HT := Lib.hid (word_ok g l 8 8 rfl w h hs (by decide))
    have e : wordR l = some (.int .u64 (beN (l.take 8) : Nat), l.drop 8) := if_pos hs
    rw [e]
    clear h hs e
    go_enter Tryd.func39, Tryd.ntmps39
    go_wp2_with fail
    with_reducible refine HT.out.mono ?_
    rintro e w1 ⟨rfl, hR, hg⟩
    go_wp2_with fail
    go_ret
    exact ⟨hg, rfl, hR⟩
  · have HT := Lib.hid (word_bad g l 8 8 rfl w h (by omega) (by decide))
    have e : wordR l = none := if_neg hs
    have HR := Lib.hid h
    rw [e]
    clear h hs e
    go_enter Tryd.func39, Tryd.ntmps39
    go_wp2_with fail
    with_reducible refine HT.out.mono ?_
    rintro e w1 ⟨rfl, rfl⟩
    go_wp2_with fail
    exact ⟨rfl, World.grownBy.refl _ _, l, rfl, HR.out⟩

theorem _root_.Go.World.grownBy.bk {w w' : World} {row : Option Nat} {g : Nat} {t : TypeId} {cs : Array Value} (hg : w.grownBy w' row) (h : Bk w g t cs) (hne : some g ≠ row) : Bk w' g t cs := h.grown hg hne
theorem tmps21 (a b x : Value) : #[a, b] ++ ((Array.replicate 19 undef).setIfInBounds 4 x).setIfInBounds 0 x = #[a, b, x, undef, undef, undef, x, undef, undef, undef, undef, undef, undef, undef, undef, undef, undef, undef, undef, undef, undef] := by kernel_rfl
theorem assert_missing (W : World) : (Instr.typeAssert (.iface 87 (.agg #[])) 20 87 true).run Tryd.prog W = .ok (.tuple #[.agg #[], .bool true]) W := by
  have hu := run_underlying (w := W) Tryd.underlying87
  unfold Instr.typeAssert
  simp [Sem.run_bind, hu]
theorem wpS_later {P : Program} {Q : Exit → Act → List Frame → World → Prop} {a : Act} {cs : List Frame} {w : World} {c : Code} (h : ∀ Q' : Exit → Act → World → Prop, (∀ e a' w', Q e a' cs w' → Q' e a' w') → c.wp P Q' a w) : c.wpS P Q a cs w := wpS_of_wp (h _ fun _ _ _ x => x)
theorem grown_two {w W w2 w3 : World} {g k : Nat} (hb : Below w.heap.size w W) (h2 : W.grownBy w2 (some g)) (h3 : w2.grownBy w3 (some k)) (hk : w.heap.size ≤ k) : w.grownBy w3 (some g) := by
  have h1 := h2.size
  have h0 := hb.size
  exact ⟨h3.os.trans (h2.os.trans hb.os), h3.tape.trans (h2.tape.trans hb.tape), h3.output.trans (h2.output.trans hb.output), by have := h3.size; omega, fun j hj hne => by
    rw [h3.block j (by omega) (fun e => by have := Option.some.inj e; omega), h2.block j (by omega) hne, hb.block j hj]⟩
-- READ u64
set_option maxHeartbeats 400000 in
theorem catch_u64 (g rb ob : Nat) (x : Int) (older : List PanicEntry) (w : World) (hr : w.cell? ⟨rb, 0, none⟩ = some (.pointer (some ⟨g, 0, none⟩))) (hb1 : w.cell? ⟨g, 1, none⟩ = some (.bool false)) (hbz : w.frozen? ⟨g, 1, none⟩ = false) (hc : w.cell? ⟨ob, 0, none⟩ = some (.int .u64 x)) (hz : w.frozen? ⟨ob, 0, none⟩ = false) (hog : ob ≠ g) (hrg : rb ≠ g) (hl1 : g < w.heap.size) (hl2 : rb < w.heap.size) (hl3 : ob < w.heap.size) :
    CallsD Tryd.prog 53 #[.pointer (some ⟨rb, 0, none⟩), .pointer (some ⟨ob, 0, none⟩)] (.panicking ({ v := .iface 87 (.agg #[]), recovered := false } :: older)) w fun e u' w' =>
      e = .returned (.tuple #[]) ∧ u' = .panicking ({ v := .iface 87 (.agg #[]), recovered := true } :: older) ∧ w' = ((w.setCell ⟨g, 1, none⟩ (.bool true)).setCell ⟨ob, 0, none⟩ (.int .u64 0)).alloc (.cells #[] 87) := by
  have keep : ∀ p : Addr, p.block < w.heap.size → (w.alloc (.cells #[] 87)).cell? p = w.cell? p := fun p hp => World.cell?_of_block (Below.heap_alloc w _ p.block hp)
  have keepz : ∀ p : Addr, p.block < w.heap.size → (w.alloc (.cells #[] 87)).frozen? p = w.frozen? p := fun p hp => World.frozen?_of_block (Below.heap_alloc w _ p.block hp)
  have h1 := (keep ⟨rb, 0, none⟩ hl2).trans hr
  have h2 := (keep ⟨g, 1, none⟩ hl1).trans hb1
  have h3 := (keep ⟨ob, 0, none⟩ hl3).trans hc
  have z2 := (keepz ⟨g, 1, none⟩ hl1).trans hbz
  have z3 := (keepz ⟨ob, 0, none⟩ hl3).trans hz
  clear keep keepz
  have hta := assert_missing
  refine callsD_of_wpS Tryd.func53 rfl fun c₀ cs hu => ?_
  apply wpS_seq
  apply wpS_region
  simp [wpOpsS, go_sem, recoverD, hu, Tryd.ntmps53, Exit.thenS]
  rw [tmps21]
  with_reducible apply wpS_later
  intro Q' hQ
  have HQ := Lib.hid hQ
  clear hQ
  go_wp2_with fail
  refine HQ.out _ _ _ ?_
  clear HQ h1 h2 h3 z2 z3 hta hr hb1 hbz hc hz
  cases c₀
  simp_all [bodyPostS, results, Tryd.results53]
set_option maxHeartbeats 400000 in
theorem idle_u64 (p q : Addr) (w : World) :
    CallsD Tryd.prog 53 #[.pointer (some p), .pointer (some q)] .returning w fun e u' w' => e = .returned (.tuple #[]) ∧ u' = .returning ∧ w' = w := by
  refine callsD_of_wpS Tryd.func53 rfl fun c₀ cs hu => ?_
  apply wpS_seq
  apply wpS_region
  simp [wpOpsS, go_sem, recoverD, hu, Tryd.ntmps53, Exit.thenS]
  rw [tmps21]
  with_reducible apply wpS_later
  intro Q' hQ
  have HQ := Lib.hid hQ
  clear hQ
  go_wp2_with fail
  refine HQ.out _ _ _ ?_
  cases c₀
  simp_all [bodyPostS, results, Tryd.results53]
set_option maxHeartbeats 1000000 in
theorem read_u64 (g b : Nat) (l : List UInt8) (w : World) (h : Rs w g l false) (hb : w.cell? ⟨b, 0, none⟩ = some (.pointer (some ⟨g, 0, none⟩))) :
    Calls Tryd.prog 38 #[.pointer (some ⟨g, 0, none⟩), .func (.func 39) #[] #[.pointer (some ⟨b, 0, none⟩)]] w (ReadP w g (wordR l) (.int .u64 0)) := by
  have hmf : ∀ (fn : Fn) (first cap : Array Value) (w : World), (Instr.makeFunc fn first cap).run Tryd.prog w = .ok (.func fn first cap) w := fun _ _ _ _ => rfl
  obtain ⟨n0, hn0⟩ : ∃ n0, w.heap.size = n0 := ⟨_, rfl⟩
  obtain ⟨W, hW⟩ : ∃ W, (w.alloc (.cells #[.pointer (some ⟨g, 0, none⟩)] 44)).alloc (.cells #[.int .u64 0] 27) = W := ⟨_, rfl⟩
  have hbel : Below w.heap.size w W := by rw [← hW]; exact (by (first | assumption | (repeat (first | exact Below.refl _ _ | assumption | apply Below.drew | apply below_drewN | (refine Below.setCell ?_ (by (try simp) <;> omega) _) | (refine Below.alloc ?_ (by (try simp) <;> omega) _)))))
  have hR := h.old hbel
  have c1 : W.cell? ⟨g, 1, none⟩ = some (.bool false) := by obtain ⟨A, c, hk, _⟩ := hR; exact hk.cell 1
  have hbW : W.cell? ⟨b, 0, none⟩ = some (.pointer (some ⟨g, 0, none⟩)) := by
    have : b < w.heap.size := World.block_lt_of_cell? w _ hb
    exact (hbel.cell (p := ⟨b, 0, none⟩) this).trans hb
  have k0 : Bk W n0 44 #[.pointer (some ⟨g, 0, none⟩)] := by rw [← hW, ← hn0]; exact (Bk.new w _ _).alloc _
  have k1 : Bk W (n0 + 1) 27 #[.int .u64 0] := by rw [← hW, ← hn0]; have := Bk.new (w.alloc (.cells #[.pointer (some ⟨g, 0, none⟩)] 44)) 27 #[.int .u64 0]; simpa using this
  have HC := Lib.hid (wordC g b l W hR hbW)
  have HB := Lib.hid hbel
  have HR := Lib.hid hR
  have HK0 := Lib.hid k0
  have HK1 := Lib.hid k1
  have HG := Lib.hid h.lt
  have d0 : W.cell? ⟨n0, 0, none⟩ = some (.pointer (some ⟨g, 0, none⟩)) := k0.cell 0
  clear h hb hbel hR hbW k0 k1
  go_enter_defers Tryd.func38, Tryd.ntmps38
  go_wp2_with fail
  with_reducible refine HC.out.mono ?_
  rintro e w2 ⟨hg2, hv2⟩
  have HG2 := Lib.hid hg2
  have k0 := HG2.out.bk HK0.out (by intro e; have := HG.out; have := Option.some.inj e; omega)
  have k1 := HG2.out.bk HK1.out (by intro e; have := HG.out; have := Option.some.inj e; omega)
  have HK0' := Lib.hid k0
  have HK1' := Lib.hid k1
  clear hg2 k0 k1 HC d0 c1
  cases hw : wordR l with
  | some x =>
    obtain ⟨v, l'⟩ := x
    rw [hw] at hv2
    obtain ⟨x, rfl⟩ := w_some hw
    obtain ⟨rfl, hR2⟩ := hv2
    have HR2 := Lib.hid hR2
    have d1 := HK1'.out.cell 0
    have z1 := HK1'.out.frozen 0
    clear hR2
    have HW := Lib.hid hw
    clear hw
    go_wp2_with fail
    refine leaves_cons (f := 53) (args := #[.pointer (some ⟨n0, 0, none⟩), .pointer (some ⟨n0 + 1, 0, none⟩)]) (by simp) (by simp [go_sem]) ?_
    refine (idle_u64 ⟨n0, 0, none⟩ ⟨n0 + 1, 0, none⟩ _).mono ?_
    rintro e u' w'' ⟨rfl, rfl, rfl⟩
    have dx : (w2.setCell ⟨n0 + 1, 0, none⟩ (.int .u64 x)).cell? ⟨n0 + 1, 0, none⟩ = some (.int .u64 x) := (HK1'.out.set_ 0 (.int .u64 x)).cell 0
    have hfin : ReadP w g (some (.int .u64 x, l')) (.int .u64 0) (.returned (.int .u64 x)) (w2.setCell ⟨n0 + 1, 0, none⟩ (.int .u64 x)) :=
      ⟨grown_two HB.out HG2.out (Lib.grownBy_setCell w2 (n0 + 1) 0 _) (by omega), rfl, HR2.out.move (Lib.grownBy_setCell w2 (n0 + 1) 0 _) (by have := HG.out; omega) (HK1'.out.no8 (by decide))⟩
    obtain ⟨wf, hwf⟩ : ∃ wf, w2.setCell ⟨n0 + 1, 0, none⟩ (.int .u64 x) = wf := ⟨_, rfl⟩
    rw [hwf] at dx hfin ⊢
    rw [← HW.out] at hfin
    have HFIN := Lib.hid hfin
    clear hfin hwf HW
    simp [Go.Leaves, settle, results, Tryd.results38, go_sem, dx]
    exact HFIN.out
  | none =>
    rw [hw] at hv2
    obtain ⟨l', rfl, hR2⟩ := hv2
    have HR2 := Lib.hid hR2
    have b1 : w2.cell? ⟨g, 1, none⟩ = some (.bool false) := by obtain ⟨A, c, hk, _⟩ := hR2; exact hk.cell 1
    have b2 : w2.frozen? ⟨g, 1, none⟩ = false := by obtain ⟨A, c, hk, _⟩ := hR2; exact hk.frozen 1
    have hsz : n0 + 1 < w2.heap.size := HK1'.out.lt
    have hgn : g < n0 := by rw [← hn0]; exact HG.out
    clear hR2 hw
    refine leaves_cons (f := 53) (args := #[.pointer (some ⟨n0, 0, none⟩), .pointer (some ⟨n0 + 1, 0, none⟩)]) (by simp) (by simp [go_sem]) ?_
    refine (catch_u64 g n0 (n0 + 1) 0 [] w2 (HK0'.out.cell 0) b1 b2 (HK1'.out.cell 0) (HK1'.out.frozen 0) (by omega) (by omega) (by omega) (by omega) hsz).mono ?_
    rintro e u' w'' ⟨rfl, rfl, rfl⟩
    have k2 : Bk (((w2.setCell ⟨g, 1, none⟩ (.bool true)).setCell ⟨n0 + 1, 0, none⟩ (.int .u64 0)).alloc (.cells #[] 87)) (n0 + 1) 27 #[.int .u64 0] :=
      ((HK1'.out.far (p := ⟨g, 1, none⟩) (by show n0 + 1 ≠ g; omega) (.bool true)).set_ 0 (.int .u64 0)).alloc _
    have dx : (((w2.setCell ⟨g, 1, none⟩ (.bool true)).setCell ⟨n0 + 1, 0, none⟩ (.int .u64 0)).alloc (.cells #[] 87)).cell? ⟨n0 + 1, 0, none⟩ = some (.int .u64 0) := k2.cell 0
    have hR3 : Rs (((w2.setCell ⟨g, 1, none⟩ (.bool true)).setCell ⟨n0 + 1, 0, none⟩ (.int .u64 0)).alloc (.cells #[] 87)) g l' true := by
      obtain ⟨A, c, hk, hlc, hcm, hs, hz, htg⟩ := HR2.out
      have h3 : Rs (w2.setCell ⟨g, 1, none⟩ (.bool true)) g l' true := Rs.set hk hs htg hlc hcm hz 1 _ rfl
      exact (h3.move (Lib.grownBy_setCell _ (n0 + 1) 0 (.int .u64 0)) (by omega) ((HK1'.out.far (p := ⟨g, 1, none⟩) (by show n0 + 1 ≠ g; omega) (.bool true)).no8 (by decide))).old (by (first | assumption | (repeat (first | exact Below.refl _ _ | assumption | apply Below.drew | apply below_drewN | (refine Below.setCell ?_ (by (try simp) <;> omega) _) | (refine Below.alloc ?_ (by (try simp) <;> omega) _)))))
    have hfin : ReadP w g none (.int .u64 0) (.returned (.int .u64 0)) (((w2.setCell ⟨g, 1, none⟩ (.bool true)).setCell ⟨n0 + 1, 0, none⟩ (.int .u64 0)).alloc (.cells #[] 87)) :=
      ⟨Lib.grownBy_allocR (grown_two HB.out (Lib.grownBy_setB HG2.out 1 _) (Lib.grownBy_setCell _ (n0 + 1) 0 _) (by omega)) _, l', rfl, hR3⟩
    obtain ⟨wf, hwf⟩ : ∃ wf, ((w2.setCell ⟨g, 1, none⟩ (.bool true)).setCell ⟨n0 + 1, 0, none⟩ (.int .u64 0)).alloc (.cells #[] 87) = wf := ⟨_, rfl⟩
    rw [hwf] at dx hfin ⊢
    have HFIN := Lib.hid hfin
    clear hfin hwf k2 hR3
    simp [Go.Leaves, settle, results, Tryd.results38, go_sem, dx]
    exact HFIN.out
end Go.Proofs.YtclnpglnomfjkaaDoor

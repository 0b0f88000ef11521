/- What this text proves: the contracts of the wire.Reader's readings of a text and of a count. The conditions are how the reader lies in memory. -/
import Derived.Test.YtclnpglnomfjkaaDoorWireRdB
import Derived.Test.YtclnpglnomfjkaaDoorConv
namespace Go.Proofs.YtclnpglnomfjkaaDoor
open Go.RowKit Go.Shelf
set_option linter.unusedVariables false
set_option linter.unusedSimpArgs false

def textR (l : List UInt8) : Option (Value × List UInt8) :=
  if 2 ≤ l.length ∧ beN (l.take 2) ≤ 4096 ∧ beN (l.take 2) ≤ (l.drop 2).length then some (.string (strOf ((l.drop 2).take (beN (l.take 2)))), (l.drop 2).drop (beN (l.take 2))) else none
theorem t_some {v : Value} {l l' : List UInt8} (h : textR l = some (v, l')) : ∃ x : ByteArray, v = .string x := by
  unfold textR at h
  split at h
  · simp only [Option.some.injEq, Prod.mk.injEq] at h
    exact ⟨_, h.1.symm⟩
  · cases h
def countR (m : Int) (l : List UInt8) : Option (Value × List UInt8) :=
  if 8 ≤ l.length ∧ 0 ≤ IntKind.i64.wrap (beN (l.take 8) : Nat) ∧ IntKind.i64.wrap (beN (l.take 8) : Nat) ≤ m then some (.int .i64 (IntKind.i64.wrap (beN (l.take 8) : Nat)), l.drop 8) else none
theorem c_some {m : Int} {v : Value} {l l' : List UInt8} (h : countR m l = some (v, l')) : ∃ x : Int, v = .int .i64 x := by
  unfold countR at h
  split at h
  · simp only [Option.some.injEq, Prod.mk.injEq] at h
    exact ⟨_, h.1.symm⟩
  · cases h
theorem DoP.ok {w w' : World} {g : Nat} {r : Option (Value × List UInt8)} {v : Value} {l' : List UInt8} (e : r = some (v, l')) (hg : w.grownBy w' (some g)) (hR : Rs w' g l' false) : DoP w g r (.returned v) w' := by
  subst e
  exact ⟨hg, rfl, hR⟩
theorem DoP.miss {w w' : World} {g : Nat} {r : Option (Value × List UInt8)} {l' : List UInt8} (e : r = none) (hg : w.grownBy w' (some g)) (hR : Rs w' g l' false) : DoP w g r (.panicked missed) w' := by
  subst e
  exact ⟨hg, l', rfl, hR⟩
theorem box_ne {w : World} {g b : Nat} {l : List UInt8} {brk : Bool} (h : Rs w g l brk) {p : Option Addr} (hb : w.cell? ⟨b, 0, none⟩ = some (.pointer p)) : b ≠ g := by
  rintro rfl
  obtain ⟨A, c, hk, _⟩ := h
  rw [hk.cell] at hb
  simp at hb
theorem int_ne {w : World} {g b : Nat} {l : List UInt8} {brk : Bool} (h : Rs w g l brk) {k : IntKind} {x : Int} (hb : w.cell? ⟨b, 0, none⟩ = some (.int k x)) : b ≠ g := by
  rintro rfl
  obtain ⟨A, c, hk, _⟩ := h
  rw [hk.cell] at hb
  simp at hb
theorem kept_box {w w' : World} {g b : Nat} {v : Value} (hg : w.grownBy w' (some g)) (hne : b ≠ g) (hb : w.cell? ⟨b, 0, none⟩ = some v) : w'.cell? ⟨b, 0, none⟩ = some v := by
  have hlt : b < w.heap.size := World.block_lt_of_cell? w _ hb
  exact (World.cell?_of_block (a := ⟨b, 0, none⟩) (hg.block b hlt (fun e => hne (Option.some.inj e)))).trans hb
theorem beN2 (l : List UInt8) (h : 2 ≤ l.length) : beN (l.take 2) < 65536 := beN_lt l 2 h
theorem beN8 (l : List UInt8) (h : 8 ≤ l.length) : beN (l.take 8) < 18446744073709551616 := beN_lt l 8 h

set_option maxHeartbeats 2000000 in
theorem textC (g b : Nat) (l : List UInt8) (w : World) (h : Rs w g l false) (hb : w.cell? ⟨b, 0, none⟩ = some (.pointer (some ⟨g, 0, none⟩))) :
    Calls Tryd.prog 46 #[.pointer (some ⟨b, 0, none⟩)] w (DoP w g (textR l)) := by
  have hne := box_ne h hb
  by_cases hs : 2 ≤ l.length
  · have HT := Lib.hid (word_ok g l 2 2 rfl w h hs (by decide))
    have hlt := beN2 l hs
    obtain ⟨n, hn⟩ : ∃ n, beN (l.take 2) = n := ⟨_, rfl⟩
    obtain ⟨xs, hxs⟩ : ∃ xs, l.drop 2 = xs := ⟨_, rfl⟩
    have e : textR l = if n ≤ 4096 ∧ n ≤ xs.length then some (.string (strOf (xs.take n)), xs.drop n) else none := by
      unfold textR; rw [hn, hxs]; simp [hs]
    have HE := Lib.hid e
    have HB := Lib.hid hb
    rw [hn, hxs] at HT
    rw [hn] at hlt
    have hwn : IntKind.i64.wrap (n : Int) = n := by rw [IntKind.wrap_i64]; omega
    clear h hs e hn hxs
    go_enter Tryd.func46, Tryd.ntmps46
    go_wp2_with fail
    with_reducible refine HT.out.mono ?_
    rintro e w1 ⟨rfl, hR, hg⟩
    have HR := Lib.hid hR
    have HG := Lib.hid hg
    have hb1 := kept_box hg hne HB.out
    clear hR hg HT hb
    by_cases h4 : n ≤ 4096
    · have e4 : (n : Int) ≤ 4096 := by omega
      go_wp2_with fail
      with_reducible refine (must_true _ w1).mono ?_
      rintro e w2 ⟨rfl, rfl⟩
      by_cases hx : n ≤ xs.length
      · have HK := Lib.hid (take_ok g xs n n rfl _ HR.out hx)
        have e5 := HE.out
        rw [if_pos ⟨h4, hx⟩] at e5
        have H5 := Lib.hid e5
        have HLX : Hid ((xs.take n).length = n) := Lib.hid (by rw [List.length_take]; omega)
        clear e5 HE hx
        go_wp2_with fail
        with_reducible refine HK.out.mono ?_
        rintro e w3 ⟨A, c, rfl, hnc, hcm, hsl, hR3, hg3⟩
        have HR3 := Lib.hid hR3
        have HG3 := Lib.hid hg3
        have hcv := run_conv (P := Tryd.prog) (B := w3.heap.size) (w := w3) (dst := 9) Tryd.underlying26 Tryd.underlying5 Tryd.underlying9 (xs := xs.take n) c (by rw [HLX.out]; exact hsl)
        rw [HLX.out] at hcv
        obtain ⟨sx, hsx⟩ : ∃ sx, strOf (xs.take n) = sx := ⟨_, rfl⟩
        have HSX := Lib.hid hsx
        rw [hsx] at hcv
        clear hR3 hg3 hsl HK hsx
        go_wp2_with fail
        go_ret
        exact DoP.ok (by rw [H5.out, HSX.out]; rfl) (Lib.grownBy_trans HG.out HG3.out) HR3.out
      · have HK := Lib.hid (take_bad g xs n n rfl _ HR.out (by omega) (by omega))
        have e5 := HE.out
        rw [if_neg (fun h => hx h.2)] at e5
        have H5 := Lib.hid e5
        clear e5 HE hx
        go_wp2_with fail
        with_reducible refine HK.out.mono ?_
        rintro e w3 ⟨rfl, rfl⟩
        go_wp2_with fail
        exact ⟨rfl, DoP.miss H5.out HG.out HR.out⟩
    · have e4 : decide ((n : Int) ≤ 4096) = false := by simp; omega
      have e5 := HE.out
      rw [if_neg (fun h => h4 h.1)] at e5
      have H5 := Lib.hid e5
      clear e5 HE h4
      go_wp2_with fail
      with_reducible refine (must_false _ w1).mono ?_
      rintro e w2 ⟨rfl, rfl⟩
      go_wp2_with fail
      exact ⟨rfl, DoP.miss H5.out HG.out HR.out⟩
  · have HT := Lib.hid (word_bad g l 2 2 rfl w h (by omega) (by decide))
    have e : textR l = none := by unfold textR; rw [if_neg (fun h => hs h.1)]
    have HR := Lib.hid h
    rw [e]
    clear h hs e
    go_enter Tryd.func46, Tryd.ntmps46
    go_wp2_with fail
    with_reducible refine HT.out.mono ?_
    rintro e w1 ⟨rfl, rfl⟩
    go_wp2_with fail
    exact ⟨rfl, World.grownBy.refl _ _, l, rfl, HR.out⟩

set_option maxHeartbeats 2000000 in
theorem countC (g b mb : Nat) (m : Int) (l : List UInt8) (w : World) (h : Rs w g l false) (hb : w.cell? ⟨b, 0, none⟩ = some (.pointer (some ⟨g, 0, none⟩))) (hm : w.cell? ⟨mb, 0, none⟩ = some (.int .i64 m)) :
    Calls Tryd.prog 49 #[.pointer (some ⟨b, 0, none⟩), .pointer (some ⟨mb, 0, none⟩)] w (DoP w g (countR m l)) := by
  have hne := box_ne h hb
  have hnm := int_ne h hm
  by_cases hs : 8 ≤ l.length
  · have HT := Lib.hid (word_ok g l 8 8 rfl w h hs (by decide))
    obtain ⟨x, hx⟩ : ∃ x, beN (l.take 8) = x := ⟨_, rfl⟩
    obtain ⟨n, hn⟩ : ∃ n, IntKind.i64.wrap (x : Int) = n := ⟨_, rfl⟩
    obtain ⟨xs, hxs⟩ : ∃ xs, l.drop 8 = xs := ⟨_, rfl⟩
    have e : countR m l = if 0 ≤ n ∧ n ≤ m then some (.int .i64 n, xs) else none := by
      unfold countR; rw [hx, hn, hxs]; simp [hs]
    have HE := Lib.hid e
    have HB := Lib.hid hb
    have HM := Lib.hid hm
    rw [hx, hxs] at HT
    clear h hs e hx hxs
    go_enter Tryd.func49, Tryd.ntmps49
    go_wp2_with fail
    with_reducible refine HT.out.mono ?_
    rintro e w1 ⟨rfl, hR, hg⟩
    have HR := Lib.hid hR
    have HG := Lib.hid hg
    have hb1 := kept_box hg hne HB.out
    have hm1 := kept_box hg hnm HM.out
    clear hR hg HT hb hm
    by_cases h0 : 0 ≤ n
    · by_cases h1 : n ≤ m
      · have e5 := HE.out
        rw [if_pos ⟨h0, h1⟩] at e5
        have H5 := Lib.hid e5
        clear e5 HE
        go_wp2_with fail
        with_reducible refine (must_true _ w1).mono ?_
        rintro e w2 ⟨rfl, rfl⟩
        go_wp2_with fail
        go_ret
        exact DoP.ok H5.out HG.out HR.out
      · have e5 := HE.out
        rw [if_neg (fun h => h1 h.2)] at e5
        have H5 := Lib.hid e5
        have e4 : decide (n ≤ m) = false := decide_eq_false h1
        clear e5 HE h1
        go_wp2_with fail
        with_reducible refine (must_false _ w1).mono ?_
        rintro e w2 ⟨rfl, rfl⟩
        go_wp2_with fail
        exact ⟨rfl, DoP.miss H5.out HG.out HR.out⟩
    · have e5 := HE.out
      rw [if_neg (fun h => h0 h.1)] at e5
      have H5 := Lib.hid e5
      have e4 : decide (0 ≤ n) = false := decide_eq_false h0
      clear e5 HE h0
      go_wp2_with fail
      with_reducible refine (must_false _ w1).mono ?_
      rintro e w2 ⟨rfl, rfl⟩
      go_wp2_with fail
      exact ⟨rfl, DoP.miss H5.out HG.out HR.out⟩
  · have HT := Lib.hid (word_bad g l 8 8 rfl w h (by omega) (by decide))
    have e : countR m l = none := by unfold countR; rw [if_neg (fun h => hs h.1)]
    have HR := Lib.hid h
    rw [e]
    clear h hs e
    go_enter Tryd.func49, Tryd.ntmps49
    go_wp2_with fail
    with_reducible refine HT.out.mono ?_
    rintro e w1 ⟨rfl, rfl⟩
    go_wp2_with fail
    exact ⟨rfl, World.grownBy.refl _ _, l, rfl, HR.out⟩

-- READ u64
set_option maxHeartbeats 400000 in
theorem catch_str (g rb ob : Nat) (x : ByteArray) (older : List PanicEntry) (w : World) (hr : w.cell? ⟨rb, 0, none⟩ = some (.pointer (some ⟨g, 0, none⟩))) (hb1 : w.cell? ⟨g, 1, none⟩ = some (.bool false)) (hbz : w.frozen? ⟨g, 1, none⟩ = false) (hc : w.cell? ⟨ob, 0, none⟩ = some (.string x)) (hz : w.frozen? ⟨ob, 0, none⟩ = false) (hog : ob ≠ g) (hrg : rb ≠ g) (hl1 : g < w.heap.size) (hl2 : rb < w.heap.size) (hl3 : ob < w.heap.size) :
    CallsD Tryd.prog 55 #[.pointer (some ⟨rb, 0, none⟩), .pointer (some ⟨ob, 0, none⟩)] (.panicking ({ v := .iface 87 (.agg #[]), recovered := false } :: older)) w fun e u' w' =>
      e = .returned (.tuple #[]) ∧ u' = .panicking ({ v := .iface 87 (.agg #[]), recovered := true } :: older) ∧ w' = ((w.setCell ⟨g, 1, none⟩ (.bool true)).setCell ⟨ob, 0, none⟩ (.string ⟨#[]⟩)).alloc (.cells #[] 87) := by
  have keep : ∀ p : Addr, p.block < w.heap.size → (w.alloc (.cells #[] 87)).cell? p = w.cell? p := fun p hp => World.cell?_of_block (Below.heap_alloc w _ p.block hp)
  have keepz : ∀ p : Addr, p.block < w.heap.size → (w.alloc (.cells #[] 87)).frozen? p = w.frozen? p := fun p hp => World.frozen?_of_block (Below.heap_alloc w _ p.block hp)
  have h1 := (keep ⟨rb, 0, none⟩ hl2).trans hr
  have h2 := (keep ⟨g, 1, none⟩ hl1).trans hb1
  have h3 := (keep ⟨ob, 0, none⟩ hl3).trans hc
  have z2 := (keepz ⟨g, 1, none⟩ hl1).trans hbz
  have z3 := (keepz ⟨ob, 0, none⟩ hl3).trans hz
  clear keep keepz
  have hta := assert_missing
  refine callsD_of_wpS Tryd.func55 rfl fun c₀ cs hu => ?_
  apply wpS_seq
  apply wpS_region
  simp [wpOpsS, go_sem, recoverD, hu, Tryd.ntmps55, Exit.thenS]
  rw [tmps21]
  with_reducible apply wpS_later
  intro Q' hQ
  have HQ := Lib.hid hQ
  clear hQ
  go_wp2_with fail
  refine HQ.out _ _ _ ?_
  clear HQ h1 h2 h3 z2 z3 hta hr hb1 hbz hc hz
  cases c₀
  simp_all [bodyPostS, results, Tryd.results55]
set_option maxHeartbeats 400000 in
theorem idle_str (p q : Addr) (w : World) :
    CallsD Tryd.prog 55 #[.pointer (some p), .pointer (some q)] .returning w fun e u' w' => e = .returned (.tuple #[]) ∧ u' = .returning ∧ w' = w := by
  refine callsD_of_wpS Tryd.func55 rfl fun c₀ cs hu => ?_
  apply wpS_seq
  apply wpS_region
  simp [wpOpsS, go_sem, recoverD, hu, Tryd.ntmps55, Exit.thenS]
  rw [tmps21]
  with_reducible apply wpS_later
  intro Q' hQ
  have HQ := Lib.hid hQ
  clear hQ
  go_wp2_with fail
  refine HQ.out _ _ _ ?_
  cases c₀
  simp_all [bodyPostS, results, Tryd.results55]
set_option maxHeartbeats 1000000 in
theorem read_str (g b : Nat) (l : List UInt8) (w : World) (h : Rs w g l false) (hb : w.cell? ⟨b, 0, none⟩ = some (.pointer (some ⟨g, 0, none⟩))) :
    Calls Tryd.prog 45 #[.pointer (some ⟨g, 0, none⟩), .func (.func 46) #[] #[.pointer (some ⟨b, 0, none⟩)]] w (ReadP w g (textR l) (.string ⟨#[]⟩)) := by
  have hmf : ∀ (fn : Fn) (first cap : Array Value) (w : World), (Instr.makeFunc fn first cap).run Tryd.prog w = .ok (.func fn first cap) w := fun _ _ _ _ => rfl
  obtain ⟨n0, hn0⟩ : ∃ n0, w.heap.size = n0 := ⟨_, rfl⟩
  obtain ⟨W, hW⟩ : ∃ W, (w.alloc (.cells #[.pointer (some ⟨g, 0, none⟩)] 44)).alloc (.cells #[.string ⟨#[]⟩] 9) = W := ⟨_, rfl⟩
  have hbel : Below w.heap.size w W := by rw [← hW]; exact (by (first | assumption | (repeat (first | exact Below.refl _ _ | assumption | apply Below.drew | apply below_drewN | (refine Below.setCell ?_ (by (try simp) <;> omega) _) | (refine Below.alloc ?_ (by (try simp) <;> omega) _)))))
  have hR := h.old hbel
  have c1 : W.cell? ⟨g, 1, none⟩ = some (.bool false) := by obtain ⟨A, c, hk, _⟩ := hR; exact hk.cell 1
  have hbW : W.cell? ⟨b, 0, none⟩ = some (.pointer (some ⟨g, 0, none⟩)) := by
    have : b < w.heap.size := World.block_lt_of_cell? w _ hb
    exact (hbel.cell (p := ⟨b, 0, none⟩) this).trans hb
  have k0 : Bk W n0 44 #[.pointer (some ⟨g, 0, none⟩)] := by rw [← hW, ← hn0]; exact (Bk.new w _ _).alloc _
  have k1 : Bk W (n0 + 1) 9 #[.string ⟨#[]⟩] := by rw [← hW, ← hn0]; have := Bk.new (w.alloc (.cells #[.pointer (some ⟨g, 0, none⟩)] 44)) 9 #[.string ⟨#[]⟩]; simpa using this
  have HC := Lib.hid (textC g b l W hR hbW)
  have HB := Lib.hid hbel
  have HR := Lib.hid hR
  have HK0 := Lib.hid k0
  have HK1 := Lib.hid k1
  have HG := Lib.hid h.lt
  have d0 : W.cell? ⟨n0, 0, none⟩ = some (.pointer (some ⟨g, 0, none⟩)) := k0.cell 0
  clear h hb hbel hR hbW k0 k1
  go_enter_defers Tryd.func45, Tryd.ntmps45
  go_wp2_with fail
  with_reducible refine HC.out.mono ?_
  rintro e w2 ⟨hg2, hv2⟩
  have HG2 := Lib.hid hg2
  have k0 := HG2.out.bk HK0.out (by intro e; have := HG.out; have := Option.some.inj e; omega)
  have k1 := HG2.out.bk HK1.out (by intro e; have := HG.out; have := Option.some.inj e; omega)
  have HK0' := Lib.hid k0
  have HK1' := Lib.hid k1
  clear hg2 k0 k1 HC d0 c1
  cases hw : textR l with
  | some x =>
    obtain ⟨v, l'⟩ := x
    rw [hw] at hv2
    obtain ⟨x, rfl⟩ := t_some hw
    obtain ⟨rfl, hR2⟩ := hv2
    have HR2 := Lib.hid hR2
    have d1 := HK1'.out.cell 0
    have z1 := HK1'.out.frozen 0
    clear hR2
    have HW := Lib.hid hw
    clear hw
    go_wp2_with fail
    refine leaves_cons (f := 55) (args := #[.pointer (some ⟨n0, 0, none⟩), .pointer (some ⟨n0 + 1, 0, none⟩)]) (by simp) (by simp [go_sem]) ?_
    refine (idle_str ⟨n0, 0, none⟩ ⟨n0 + 1, 0, none⟩ _).mono ?_
    rintro e u' w'' ⟨rfl, rfl, rfl⟩
    have dx : (w2.setCell ⟨n0 + 1, 0, none⟩ (.string x)).cell? ⟨n0 + 1, 0, none⟩ = some (.string x) := (HK1'.out.set_ 0 (.string x)).cell 0
    have hfin : ReadP w g (some (.string x, l')) (.string ⟨#[]⟩) (.returned (.string x)) (w2.setCell ⟨n0 + 1, 0, none⟩ (.string x)) :=
      ⟨grown_two HB.out HG2.out (Lib.grownBy_setCell w2 (n0 + 1) 0 _) (by omega), rfl, HR2.out.move (Lib.grownBy_setCell w2 (n0 + 1) 0 _) (by have := HG.out; omega) (HK1'.out.no8 (by decide))⟩
    obtain ⟨wf, hwf⟩ : ∃ wf, w2.setCell ⟨n0 + 1, 0, none⟩ (.string x) = wf := ⟨_, rfl⟩
    rw [hwf] at dx hfin ⊢
    rw [← HW.out] at hfin
    have HFIN := Lib.hid hfin
    clear hfin hwf HW
    simp [Go.Leaves, settle, results, Tryd.results45, go_sem, dx]
    exact HFIN.out
  | none =>
    rw [hw] at hv2
    obtain ⟨l', rfl, hR2⟩ := hv2
    have HR2 := Lib.hid hR2
    have b1 : w2.cell? ⟨g, 1, none⟩ = some (.bool false) := by obtain ⟨A, c, hk, _⟩ := hR2; exact hk.cell 1
    have b2 : w2.frozen? ⟨g, 1, none⟩ = false := by obtain ⟨A, c, hk, _⟩ := hR2; exact hk.frozen 1
    have hsz : n0 + 1 < w2.heap.size := HK1'.out.lt
    have hgn : g < n0 := by rw [← hn0]; exact HG.out
    clear hR2 hw
    refine leaves_cons (f := 55) (args := #[.pointer (some ⟨n0, 0, none⟩), .pointer (some ⟨n0 + 1, 0, none⟩)]) (by simp) (by simp [go_sem]) ?_
    refine (catch_str g n0 (n0 + 1) ⟨#[]⟩ [] w2 (HK0'.out.cell 0) b1 b2 (HK1'.out.cell 0) (HK1'.out.frozen 0) (by omega) (by omega) (by omega) (by omega) hsz).mono ?_
    rintro e u' w'' ⟨rfl, rfl, rfl⟩
    have k2 : Bk (((w2.setCell ⟨g, 1, none⟩ (.bool true)).setCell ⟨n0 + 1, 0, none⟩ (.string ⟨#[]⟩)).alloc (.cells #[] 87)) (n0 + 1) 9 #[.string ⟨#[]⟩] :=
      ((HK1'.out.far (p := ⟨g, 1, none⟩) (by show n0 + 1 ≠ g; omega) (.bool true)).set_ 0 (.string ⟨#[]⟩)).alloc _
    have dx : (((w2.setCell ⟨g, 1, none⟩ (.bool true)).setCell ⟨n0 + 1, 0, none⟩ (.string ⟨#[]⟩)).alloc (.cells #[] 87)).cell? ⟨n0 + 1, 0, none⟩ = some (.string ⟨#[]⟩) := k2.cell 0
    have hR3 : Rs (((w2.setCell ⟨g, 1, none⟩ (.bool true)).setCell ⟨n0 + 1, 0, none⟩ (.string ⟨#[]⟩)).alloc (.cells #[] 87)) g l' true := by
      obtain ⟨A, c, hk, hlc, hcm, hs, hz, htg⟩ := HR2.out
      have h3 : Rs (w2.setCell ⟨g, 1, none⟩ (.bool true)) g l' true := Rs.set hk hs htg hlc hcm hz 1 _ rfl
      exact (h3.move (Lib.grownBy_setCell _ (n0 + 1) 0 (.string ⟨#[]⟩)) (by omega) ((HK1'.out.far (p := ⟨g, 1, none⟩) (by show n0 + 1 ≠ g; omega) (.bool true)).no8 (by decide))).old (by (first | assumption | (repeat (first | exact Below.refl _ _ | assumption | apply Below.drew | apply below_drewN | (refine Below.setCell ?_ (by (try simp) <;> omega) _) | (refine Below.alloc ?_ (by (try simp) <;> omega) _)))))
    have hfin : ReadP w g none (.string ⟨#[]⟩) (.returned (.string ⟨#[]⟩)) (((w2.setCell ⟨g, 1, none⟩ (.bool true)).setCell ⟨n0 + 1, 0, none⟩ (.string ⟨#[]⟩)).alloc (.cells #[] 87)) :=
      ⟨Lib.grownBy_allocR (grown_two HB.out (Lib.grownBy_setB HG2.out 1 _) (Lib.grownBy_setCell _ (n0 + 1) 0 _) (by omega)) _, l', rfl, hR3⟩
    obtain ⟨wf, hwf⟩ : ∃ wf, ((w2.setCell ⟨g, 1, none⟩ (.bool true)).setCell ⟨n0 + 1, 0, none⟩ (.string ⟨#[]⟩)).alloc (.cells #[] 87) = wf := ⟨_, rfl⟩
    rw [hwf] at dx hfin ⊢
    have HFIN := Lib.hid hfin
    clear hfin hwf k2 hR3
    simp [Go.Leaves, settle, results, Tryd.results45, go_sem, dx]
    exact HFIN.out
-- READ u64
set_option maxHeartbeats 400000 in
theorem catch_int (g rb ob : Nat) (x : Int) (older : List PanicEntry) (w : World) (hr : w.cell? ⟨rb, 0, none⟩ = some (.pointer (some ⟨g, 0, none⟩))) (hb1 : w.cell? ⟨g, 1, none⟩ = some (.bool false)) (hbz : w.frozen? ⟨g, 1, none⟩ = false) (hc : w.cell? ⟨ob, 0, none⟩ = some (.int .i64 x)) (hz : w.frozen? ⟨ob, 0, none⟩ = false) (hog : ob ≠ g) (hrg : rb ≠ g) (hl1 : g < w.heap.size) (hl2 : rb < w.heap.size) (hl3 : ob < w.heap.size) :
    CallsD Tryd.prog 56 #[.pointer (some ⟨rb, 0, none⟩), .pointer (some ⟨ob, 0, none⟩)] (.panicking ({ v := .iface 87 (.agg #[]), recovered := false } :: older)) w fun e u' w' =>
      e = .returned (.tuple #[]) ∧ u' = .panicking ({ v := .iface 87 (.agg #[]), recovered := true } :: older) ∧ w' = ((w.setCell ⟨g, 1, none⟩ (.bool true)).setCell ⟨ob, 0, none⟩ (.int .i64 0)).alloc (.cells #[] 87) := by
  have keep : ∀ p : Addr, p.block < w.heap.size → (w.alloc (.cells #[] 87)).cell? p = w.cell? p := fun p hp => World.cell?_of_block (Below.heap_alloc w _ p.block hp)
  have keepz : ∀ p : Addr, p.block < w.heap.size → (w.alloc (.cells #[] 87)).frozen? p = w.frozen? p := fun p hp => World.frozen?_of_block (Below.heap_alloc w _ p.block hp)
  have h1 := (keep ⟨rb, 0, none⟩ hl2).trans hr
  have h2 := (keep ⟨g, 1, none⟩ hl1).trans hb1
  have h3 := (keep ⟨ob, 0, none⟩ hl3).trans hc
  have z2 := (keepz ⟨g, 1, none⟩ hl1).trans hbz
  have z3 := (keepz ⟨ob, 0, none⟩ hl3).trans hz
  clear keep keepz
  have hta := assert_missing
  refine callsD_of_wpS Tryd.func56 rfl fun c₀ cs hu => ?_
  apply wpS_seq
  apply wpS_region
  simp [wpOpsS, go_sem, recoverD, hu, Tryd.ntmps56, Exit.thenS]
  rw [tmps21]
  with_reducible apply wpS_later
  intro Q' hQ
  have HQ := Lib.hid hQ
  clear hQ
  go_wp2_with fail
  refine HQ.out _ _ _ ?_
  clear HQ h1 h2 h3 z2 z3 hta hr hb1 hbz hc hz
  cases c₀
  simp_all [bodyPostS, results, Tryd.results56]
set_option maxHeartbeats 400000 in
theorem idle_int (p q : Addr) (w : World) :
    CallsD Tryd.prog 56 #[.pointer (some p), .pointer (some q)] .returning w fun e u' w' => e = .returned (.tuple #[]) ∧ u' = .returning ∧ w' = w := by
  refine callsD_of_wpS Tryd.func56 rfl fun c₀ cs hu => ?_
  apply wpS_seq
  apply wpS_region
  simp [wpOpsS, go_sem, recoverD, hu, Tryd.ntmps56, Exit.thenS]
  rw [tmps21]
  with_reducible apply wpS_later
  intro Q' hQ
  have HQ := Lib.hid hQ
  clear hQ
  go_wp2_with fail
  refine HQ.out _ _ _ ?_
  cases c₀
  simp_all [bodyPostS, results, Tryd.results56]
set_option maxHeartbeats 1000000 in
theorem read_int (g b : Nat) (mb : Nat) (m : Int) (l : List UInt8) (w : World) (h : Rs w g l false) (hmb : w.cell? ⟨mb, 0, none⟩ = some (.int .i64 m)) (hb : w.cell? ⟨b, 0, none⟩ = some (.pointer (some ⟨g, 0, none⟩))) :
    Calls Tryd.prog 48 #[.pointer (some ⟨g, 0, none⟩), .func (.func 49) #[] #[.pointer (some ⟨b, 0, none⟩), .pointer (some ⟨mb, 0, none⟩)]] w (ReadP w g (countR m l) (.int .i64 0)) := by
  have hmf : ∀ (fn : Fn) (first cap : Array Value) (w : World), (Instr.makeFunc fn first cap).run Tryd.prog w = .ok (.func fn first cap) w := fun _ _ _ _ => rfl
  obtain ⟨n0, hn0⟩ : ∃ n0, w.heap.size = n0 := ⟨_, rfl⟩
  obtain ⟨W, hW⟩ : ∃ W, (w.alloc (.cells #[.pointer (some ⟨g, 0, none⟩)] 44)).alloc (.cells #[.int .i64 0] 3) = W := ⟨_, rfl⟩
  have hbel : Below w.heap.size w W := by rw [← hW]; exact (by (first | assumption | (repeat (first | exact Below.refl _ _ | assumption | apply Below.drew | apply below_drewN | (refine Below.setCell ?_ (by (try simp) <;> omega) _) | (refine Below.alloc ?_ (by (try simp) <;> omega) _)))))
  have hR := h.old hbel
  have c1 : W.cell? ⟨g, 1, none⟩ = some (.bool false) := by obtain ⟨A, c, hk, _⟩ := hR; exact hk.cell 1
  have hbW : W.cell? ⟨b, 0, none⟩ = some (.pointer (some ⟨g, 0, none⟩)) := by
    have : b < w.heap.size := World.block_lt_of_cell? w _ hb
    exact (hbel.cell (p := ⟨b, 0, none⟩) this).trans hb
  have hmW : W.cell? ⟨mb, 0, none⟩ = some (.int .i64 m) := by
    have : mb < w.heap.size := World.block_lt_of_cell? w _ hmb
    exact (hbel.cell (p := ⟨mb, 0, none⟩) this).trans hmb
  have k0 : Bk W n0 44 #[.pointer (some ⟨g, 0, none⟩)] := by rw [← hW, ← hn0]; exact (Bk.new w _ _).alloc _
  have k1 : Bk W (n0 + 1) 3 #[.int .i64 0] := by rw [← hW, ← hn0]; have := Bk.new (w.alloc (.cells #[.pointer (some ⟨g, 0, none⟩)] 44)) 3 #[.int .i64 0]; simpa using this
  have HC := Lib.hid (countC g b mb m l W hR hbW hmW)
  have HB := Lib.hid hbel
  have HR := Lib.hid hR
  have HK0 := Lib.hid k0
  have HK1 := Lib.hid k1
  have HG := Lib.hid h.lt
  have d0 : W.cell? ⟨n0, 0, none⟩ = some (.pointer (some ⟨g, 0, none⟩)) := k0.cell 0
  clear h hb hbel hR hbW k0 k1 hmW hmb
  go_enter_defers Tryd.func48, Tryd.ntmps48
  go_wp2_with fail
  with_reducible refine HC.out.mono ?_
  rintro e w2 ⟨hg2, hv2⟩
  have HG2 := Lib.hid hg2
  have k0 := HG2.out.bk HK0.out (by intro e; have := HG.out; have := Option.some.inj e; omega)
  have k1 := HG2.out.bk HK1.out (by intro e; have := HG.out; have := Option.some.inj e; omega)
  have HK0' := Lib.hid k0
  have HK1' := Lib.hid k1
  clear hg2 k0 k1 HC d0 c1
  cases hw : countR m l with
  | some x =>
    obtain ⟨v, l'⟩ := x
    rw [hw] at hv2
    obtain ⟨x, rfl⟩ := c_some hw
    obtain ⟨rfl, hR2⟩ := hv2
    have HR2 := Lib.hid hR2
    have d1 := HK1'.out.cell 0
    have z1 := HK1'.out.frozen 0
    clear hR2
    have HW := Lib.hid hw
    clear hw
    go_wp2_with fail
    refine leaves_cons (f := 56) (args := #[.pointer (some ⟨n0, 0, none⟩), .pointer (some ⟨n0 + 1, 0, none⟩)]) (by simp) (by simp [go_sem]) ?_
    refine (idle_int ⟨n0, 0, none⟩ ⟨n0 + 1, 0, none⟩ _).mono ?_
    rintro e u' w'' ⟨rfl, rfl, rfl⟩
    have dx : (w2.setCell ⟨n0 + 1, 0, none⟩ (.int .i64 x)).cell? ⟨n0 + 1, 0, none⟩ = some (.int .i64 x) := (HK1'.out.set_ 0 (.int .i64 x)).cell 0
    have hfin : ReadP w g (some (.int .i64 x, l')) (.int .i64 0) (.returned (.int .i64 x)) (w2.setCell ⟨n0 + 1, 0, none⟩ (.int .i64 x)) :=
      ⟨grown_two HB.out HG2.out (Lib.grownBy_setCell w2 (n0 + 1) 0 _) (by omega), rfl, HR2.out.move (Lib.grownBy_setCell w2 (n0 + 1) 0 _) (by have := HG.out; omega) (HK1'.out.no8 (by decide))⟩
    obtain ⟨wf, hwf⟩ : ∃ wf, w2.setCell ⟨n0 + 1, 0, none⟩ (.int .i64 x) = wf := ⟨_, rfl⟩
    rw [hwf] at dx hfin ⊢
    rw [← HW.out] at hfin
    have HFIN := Lib.hid hfin
    clear hfin hwf HW
    simp [Go.Leaves, settle, results, Tryd.results48, go_sem, dx]
    exact HFIN.out
  | none =>
    rw [hw] at hv2
    obtain ⟨l', rfl, hR2⟩ := hv2
    have HR2 := Lib.hid hR2
    have b1 : w2.cell? ⟨g, 1, none⟩ = some (.bool false) := by obtain ⟨A, c, hk, _⟩ := hR2; exact hk.cell 1
    have b2 : w2.frozen? ⟨g, 1, none⟩ = false := by obtain ⟨A, c, hk, _⟩ := hR2; exact hk.frozen 1
    have hsz : n0 + 1 < w2.heap.size := HK1'.out.lt
    have hgn : g < n0 := by rw [← hn0]; exact HG.out
    clear hR2 hw
    refine leaves_cons (f := 56) (args := #[.pointer (some ⟨n0, 0, none⟩), .pointer (some ⟨n0 + 1, 0, none⟩)]) (by simp) (by simp [go_sem]) ?_
    refine (catch_int g n0 (n0 + 1) 0 [] w2 (HK0'.out.cell 0) b1 b2 (HK1'.out.cell 0) (HK1'.out.frozen 0) (by omega) (by omega) (by omega) (by omega) hsz).mono ?_
    rintro e u' w'' ⟨rfl, rfl, rfl⟩
    have k2 : Bk (((w2.setCell ⟨g, 1, none⟩ (.bool true)).setCell ⟨n0 + 1, 0, none⟩ (.int .i64 0)).alloc (.cells #[] 87)) (n0 + 1) 3 #[.int .i64 0] :=
      ((HK1'.out.far (p := ⟨g, 1, none⟩) (by show n0 + 1 ≠ g; omega) (.bool true)).set_ 0 (.int .i64 0)).alloc _
    have dx : (((w2.setCell ⟨g, 1, none⟩ (.bool true)).setCell ⟨n0 + 1, 0, none⟩ (.int .i64 0)).alloc (.cells #[] 87)).cell? ⟨n0 + 1, 0, none⟩ = some (.int .i64 0) := k2.cell 0
    have hR3 : Rs (((w2.setCell ⟨g, 1, none⟩ (.bool true)).setCell ⟨n0 + 1, 0, none⟩ (.int .i64 0)).alloc (.cells #[] 87)) g l' true := by
      obtain ⟨A, c, hk, hlc, hcm, hs, hz, htg⟩ := HR2.out
      have h3 : Rs (w2.setCell ⟨g, 1, none⟩ (.bool true)) g l' true := Rs.set hk hs htg hlc hcm hz 1 _ rfl
      exact (h3.move (Lib.grownBy_setCell _ (n0 + 1) 0 (.int .i64 0)) (by omega) ((HK1'.out.far (p := ⟨g, 1, none⟩) (by show n0 + 1 ≠ g; omega) (.bool true)).no8 (by decide))).old (by (first | assumption | (repeat (first | exact Below.refl _ _ | assumption | apply Below.drew | apply below_drewN | (refine Below.setCell ?_ (by (try simp) <;> omega) _) | (refine Below.alloc ?_ (by (try simp) <;> omega) _)))))
    have hfin : ReadP w g none (.int .i64 0) (.returned (.int .i64 0)) (((w2.setCell ⟨g, 1, none⟩ (.bool true)).setCell ⟨n0 + 1, 0, none⟩ (.int .i64 0)).alloc (.cells #[] 87)) :=
      ⟨Lib.grownBy_allocR (grown_two HB.out (Lib.grownBy_setB HG2.out 1 _) (Lib.grownBy_setCell _ (n0 + 1) 0 _) (by omega)) _, l', rfl, hR3⟩
    obtain ⟨wf, hwf⟩ : ∃ wf, ((w2.setCell ⟨g, 1, none⟩ (.bool true)).setCell ⟨n0 + 1, 0, none⟩ (.int .i64 0)).alloc (.cells #[] 87) = wf := ⟨_, rfl⟩
    rw [hwf] at dx hfin ⊢
    have HFIN := Lib.hid hfin
    clear hfin hwf k2 hR3
    simp [Go.Leaves, settle, results, Tryd.results48, go_sem, dx]
    exact HFIN.out
end Go.Proofs.YtclnpglnomfjkaaDoor

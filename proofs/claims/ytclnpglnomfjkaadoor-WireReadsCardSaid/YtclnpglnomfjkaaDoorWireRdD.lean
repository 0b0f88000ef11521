/- What this text proves: the contract of the wire.Reader's reading of a hash. The conditions are how the reader lies in memory. -/
import Derived.Test.YtclnpglnomfjkaaDoorWireRdC
import Derived.Test.YtclnpglnomfjkaaDoorAgg
import Derived.Deep.Cut
namespace Go.Proofs.YtclnpglnomfjkaaDoor
open Go.RowKit Go.Shelf
set_option linter.unusedVariables false
set_option linter.unusedSimpArgs false

def zB : List UInt8 := List.replicate 32 0
theorem zB_len : zB.length = 32 := by decide
theorem zero_hash (w : World) : (zeroValue 29).run Tryd.prog w = .ok (.agg (bts zB).toArray) w := by
  have h : (Tryd.prog.info? 29).map (·.zero) = some (some (.agg (bts zB).toArray)) := by kernel_rfl
  cases hq : Tryd.prog.info? 29 with
  | none => rw [hq] at h; cases h
  | some i =>
    rw [hq] at h
    have h2 : i.zero = some (.agg (bts zB).toArray) := by simpa using h
    simp [zeroValue, typeInfo, hq, h2, Sem.run_bind]
theorem hhi : (Tryd.prog.info? 29).map (·.size) = some 32 := by kernel_rfl
def hashR (l : List UInt8) : Option (Value × List UInt8) := if 32 ≤ l.length then some (.agg (bts (l.take 32)).toArray, l.drop 32) else none

theorem arrayAt_32 (ba oa c : Nat) (W : World) : (Instr.arrayAt 29 (.slice (some ⟨ba, oa, none⟩) 32 c)).run Tryd.prog W = .ok (.pointer (some ⟨ba, oa, none⟩)) W := by
  have hu := run_underlying (w := W) Tryd.underlying29
  unfold Instr.arrayAt
  simp [Sem.run_bind, hu]
theorem moves_grown {w w' : World} {k : Nat} (h : Moves (fun j _ => j = k) w w') : w.grownBy w' (some k) :=
  ⟨h.os, h.tape, h.output, h.size, fun j hj hne => by
    have hh : w.heap[j]? = some (w.heap[j]'hj) := Array.getElem?_eq_getElem hj
    exact (h.block j _ hh (fun e => hne (by rw [e]))).trans hh.symm⟩
theorem below_grown {w w' : World} (h : Below w.heap.size w w') (row : Option Nat) : w.grownBy w' row := ⟨h.os, h.tape, h.output, h.size, fun j hj _ => h.block j hj⟩
theorem put_whole {cs vs : List Value} (h : cs.length = vs.length) : put cs 0 vs = vs := by simp [put, h]
theorem run_arr_at {o : Oper} {a : Act} (t : TypeId) (x : Operand) (ho : o.op = .sliceToArrayPointer t x) {vx r : Value} (hx : a.eval x = vx) {W : World} (hr : (Instr.arrayAt t vx).run Tryd.prog W = .ok r W) : (execOp a.eval o).run Tryd.prog W = .ok (.value r) W := by
  unfold execOp
  simp only [ho, hx, Sem.run_bind, hr, Result.andThen_ok, Sem.run_pure]

set_option maxHeartbeats 2000000 in
theorem hashC (g b : Nat) (l : List UInt8) (w : World) (h : Rs w g l false) (hb : w.cell? ⟨b, 0, none⟩ = some (.pointer (some ⟨g, 0, none⟩))) :
    Calls Tryd.prog 43 #[.pointer (some ⟨b, 0, none⟩)] w (DoP w g (hashR l)) := by
  have hzh := zero_hash
  obtain ⟨n0, hn0⟩ : ∃ n0, w.heap.size = n0 := ⟨_, rfl⟩
  obtain ⟨W, hW⟩ : ∃ W, w.alloc (.cells (bts zB).toArray 29) = W := ⟨_, rfl⟩
  have hbel : Below w.heap.size w W := by rw [← hW]; exact (by (first | assumption | (repeat (first | exact Below.refl _ _ | assumption | apply Below.drew | apply below_drewN | (refine Below.setCell ?_ (by (try simp) <;> omega) _) | (refine Below.alloc ?_ (by (try simp) <;> omega) _)))))
  have hR := h.old hbel
  have hbW : W.cell? ⟨b, 0, none⟩ = some (.pointer (some ⟨g, 0, none⟩)) := by
    have : b < w.heap.size := World.block_lt_of_cell? w _ hb
    exact (hbel.cell (p := ⟨b, 0, none⟩) this).trans hb
  have k0 : Bk W n0 29 (bts zB).toArray := by rw [← hW, ← hn0]; exact Bk.new w _ _
  have HK0 := Lib.hid k0
  have HB := Lib.hid hbel
  have HG := Lib.hid h.lt
  have HR := Lib.hid hR
  by_cases hs : 32 ≤ l.length
  · have HT := Lib.hid (take_ok g l 32 32 rfl W hR hs)
    have e : hashR l = some (.agg (bts (l.take 32)).toArray, l.drop 32) := if_pos hs
    have H5 := Lib.hid e
    have HL : Hid ((l.take 32).length = 32) := Lib.hid (by rw [List.length_take]; omega)
    clear h hb hbel hR k0 e hs
    go_enter Tryd.func43, Tryd.ntmps43
    go_wp2_with fail
    with_reducible refine HT.out.mono ?_
    rintro e w1 ⟨A, c, rfl, hnc, hcm, hsl, hR1, hg1⟩
    have HR1 := Lib.hid hR1
    have HG1 := Lib.hid hg1
    obtain ⟨ba, oa, rfl, hba, hc⟩ := hsl.at_ (by decide)
    have HC : Hid (w1.rangeAt ba oa (bts (l.take 32))) := Lib.hid hc
    have HK1 := Lib.hid (hg1.bk HK0.out (by intro e; have := HG.out; have := Option.some.inj e; omega))
    have hap := arrayAt_32 ba oa c
    clear hR1 hg1 hsl hc HT
    go_wp2_with (first
      | (refine wpList_val (by rfl) (run_arr_at 29 _ (by with_reducible rfl) (by rfl) (hap _)) ?_)
      | (refine wpList_val (by rfl) (run_load_seg 29 _ (by with_reducible rfl) ba oa (by rfl) _ HC.out 32 (by rw [bts_len]; exact HL.out) _ Tryd.underlying29 (by rfl) hhi) ?_)
      | (refine wpList_puts (by rfl) 29 _ _ (by with_reducible rfl) n0 0 (by rfl) (bts (l.take 32)) (by rfl) 29 (bts zB) (by exact HK1.out) 32 (by rw [bts_len]; exact HL.out) (by rw [bts_len]; decide) hhi bts_all ?_; intro w3 hb_ hm_ hz_; have HB3 := Lib.hid hb_; have HM3 := Lib.hid hm_; clear hb_ hm_ hz_))
    have hp : put (bts zB) 0 (bts (l.take 32)) = bts (l.take 32) := put_whole (by rw [bts_len, bts_len, HL.out]; rfl)
    rw [hp] at HB3
    have hsz : (bts (l.take 32)).length = 32 := by rw [bts_len]; exact HL.out
    refine bodyPost_ret (results_cell_row rfl _ _ n0 29 (bts (l.take 32)).toArray (0, 0) _ (by rfl) HB3.out Tryd.underlying29 rfl (by rw [hhi]; simp [hsz])) rfl ?_
    have hgn : g < n0 := by rw [← hn0]; exact HG.out
    refine DoP.ok H5.out (grown_two HB.out HG1.out (moves_grown HM3.out) (by omega)) (HR1.out.move (moves_grown HM3.out) (by omega) (HK1.out.no8 (by decide)))
  · have HT := Lib.hid (take_bad g l 32 32 rfl W hR (by omega) (by decide))
    have e : hashR l = none := if_neg hs
    have H5 := Lib.hid e
    clear h hb hbel hR k0 e hs
    go_enter Tryd.func43, Tryd.ntmps43
    go_wp2_with fail
    with_reducible refine HT.out.mono ?_
    rintro e w1 ⟨rfl, rfl⟩
    go_wp2_with fail
    exact ⟨rfl, DoP.miss H5.out (below_grown HB.out _) HR.out⟩

theorem step_val {P : Program} {ops : Array Oper} {o : Oper} {a : Act} {w : World} {K : Act → World → Prop} {Q : Exit → Act → World → Prop} {E : Prop} {v : Value} (hgd : o.guard = none) (hr : (execOp a.eval o).run P w = .ok (.value v) w) (h : K (a.put o.dst v) w) :
    if Region.wanted o (yielded ops a.tmps) = true then Oper.wp P o a w K Q else E := by
  rw [if_pos (by simp [Region.wanted, hgd])]
  unfold Oper.wp
  rw [hr]
  exact h
theorem step_skip {P : Program} {ops : Array Oper} {o : Oper} {a : Act} {w w' : World} {K : Act → World → Prop} {Q : Exit → Act → World → Prop} {E : Prop} (hgd : o.guard = none) (hr : (execOp a.eval o).run P w = .ok .skip w') (h : K (a.put o.dst undef) w') :
    if Region.wanted o (yielded ops a.tmps) = true then Oper.wp P o a w K Q else E := by
  rw [if_pos (by simp [Region.wanted, hgd])]
  unfold Oper.wp
  rw [hr]
  exact h
theorem run_store_sg {P : Program} {a : Act} {w : World} {o : Oper} (ty : TypeId) (x y : Operand) (ho : o.op = .store ty x y) (g off : Nat) (hx : a.eval x = .pointer (some ⟨g, off, none⟩)) (vs : List Value) (hy : a.eval y = .agg vs.toArray) (n : Nat) (hn : vs.length = n)
    (ht : w.there g off n) (hi : (P.info? ty).map (·.size) = some n) (h1 : vs.toArray.all (·.oneCell') = true) : (execOp a.eval o).run P w = .ok .skip (w.setCells g off vs) := by
  subst hn
  have h := run_storeVar_mid (P := P) w g off ty vs.toArray (by simpa using ht) (by simpa using hi) h1
  unfold execOp
  simp only [ho, hx, hy, Instr.storeAt, Instr.sureAddr, Sem.run_bind, Sem.run_pure, Result.andThen_ok, h]
theorem Bk.ther {w : World} {g : Nat} {t : TypeId} {cs : Array Value} (h : Bk w g t cs) (n : Nat) (hn : n ≤ cs.size) : w.there g 0 n := fun j hj => by
  refine ⟨?_, h.frozen _⟩
  rw [h.cell, Nat.zero_add, Array.getElem?_eq_getElem (by omega)]
  simp

theorem idle_hash (p q : Addr) (w : World) :
    CallsD Tryd.prog 54 #[.pointer (some p), .pointer (some q)] .returning w fun e u' w' => e = .returned (.tuple #[]) ∧ u' = .returning ∧ w' = w := by
  refine callsD_of_wpS Tryd.func54 rfl fun c₀ cs hu => ?_
  apply wpS_seq
  apply wpS_region
  simp [wpOpsS, go_sem, recoverD, hu, Tryd.ntmps54, Exit.thenS]
  rw [tmps21]
  with_reducible apply wpS_later
  intro Q' hQ
  have HQ := Lib.hid hQ
  clear hQ
  go_wp2_with fail
  refine HQ.out _ _ _ ?_
  cases c₀
  simp_all [bodyPostS, results, Tryd.results54]
set_option maxHeartbeats 800000 in
theorem catch_hash (g rb ob : Nat) (older : List PanicEntry) (w : World) (hr : w.cell? ⟨rb, 0, none⟩ = some (.pointer (some ⟨g, 0, none⟩))) (hb1 : w.cell? ⟨g, 1, none⟩ = some (.bool false)) (hbz : w.frozen? ⟨g, 1, none⟩ = false) (hk : Bk w ob 29 (bts zB).toArray) (hog : ob ≠ g) (hrg : rb ≠ g) (hl1 : g < w.heap.size) (hl2 : rb < w.heap.size) :
    CallsD Tryd.prog 54 #[.pointer (some ⟨rb, 0, none⟩), .pointer (some ⟨ob, 0, none⟩)] (.panicking ({ v := .iface 87 (.agg #[]), recovered := false } :: older)) w fun e u' w' =>
      e = .returned (.tuple #[]) ∧ u' = .panicking ({ v := .iface 87 (.agg #[]), recovered := true } :: older) ∧ Bk w' ob 29 (bts zB).toArray ∧ ∃ w1, Below w.heap.size w w1 ∧ (w1.setCell ⟨g, 1, none⟩ (.bool true)).grownBy w' (some ob) := by
  have hzh := zero_hash
  have hta := assert_missing
  refine callsD_of_wpS Tryd.func54 rfl fun c₀ cs hu => ?_
  apply wpS_seq
  apply wpS_region
  simp [wpOpsS, go_sem, recoverD, hu, Tryd.ntmps54, Exit.thenS]
  rw [tmps21]
  with_reducible apply wpS_later
  intro Q' hQ
  have HQ := Lib.hid hQ
  clear hQ
  go_upto_region 6 with fail
  have mixed : Tryd.prog.follows .mixedOrders = true := by kernel_rfl
  obtain ⟨n1, hn1⟩ : ∃ n1, w.heap.size = n1 := ⟨_, rfl⟩
  obtain ⟨W, hW⟩ : ∃ W, (w.alloc (.cells #[] 87)).alloc (.cells (bts zB).toArray 29) = W := ⟨_, rfl⟩
  have hbel : Below w.heap.size w W := by rw [← hW]; exact (by (first | assumption | (repeat (first | exact Below.refl _ _ | assumption | apply Below.drew | apply below_drewN | (refine Below.setCell ?_ (by (try simp) <;> omega) _) | (refine Below.alloc ?_ (by (try simp) <;> omega) _)))))
  have c1 : W.cell? ⟨rb, 0, none⟩ = some (.pointer (some ⟨g, 0, none⟩)) := (hbel.cell (p := ⟨rb, 0, none⟩) hl2).trans hr
  have c2 : W.cell? ⟨g, 1, none⟩ = some (.bool false) := (hbel.cell (p := ⟨g, 1, none⟩) hl1).trans hb1
  have z2 : W.frozen? ⟨g, 1, none⟩ = false := (World.frozen?_of_block (a := ⟨g, 1, none⟩) (hbel.block g hl1)).trans hbz
  have kO : Bk W ob 29 (bts zB).toArray := hk.below hbel hk.lt
  have kN : Bk W (n1 + 1) 29 (bts zB).toArray := by
    rw [← hW, ← hn1]
    have := Bk.new (w.alloc (.cells #[] 87)) 29 (bts zB).toArray
    simpa using this
  have kN2 : Bk (W.drew.setCell ⟨g, 1, none⟩ (.bool true)) (n1 + 1) 29 (bts zB).toArray := kN.drew.far (p := ⟨g, 1, none⟩) (by show n1 + 1 ≠ g; omega) _
  have kO2 : Bk (W.drew.setCell ⟨g, 1, none⟩ (.bool true)) ob 29 (bts zB).toArray := kO.drew.far (p := ⟨g, 1, none⟩) hog _
  have r1 : W.drew.rangeAt (n1 + 1) 0 (bts zB) := fun j v hj => by rw [kN.drew.cell, Nat.zero_add, List.getElem?_toArray]; exact hj
  have r2 : (W.drew.setCell ⟨g, 1, none⟩ (.bool true)).rangeAt (n1 + 1) 0 (bts zB) := fun j v hj => by rw [kN2.cell, Nat.zero_add, List.getElem?_toArray]; exact hj
  have th := kO2.ther 32 (by simp [bts_len, zB_len])
  have HB := Lib.hid hbel
  have HO := Lib.hid kO2
  have R1 := Lib.hid r1
  have R2 := Lib.hid r2
  have TH := Lib.hid th
  rw [hW, hn1]
  clear hW hbel kO kN kN2 kO2 r1 r2 th hr hb1 hbz hk hta hzh
  have hfin : Bk ((W.drew.setCell ⟨g, 1, none⟩ (.bool true)).setCells ob 0 (bts zB)) ob 29 (bts zB).toArray ∧ ∃ w1, Below w.heap.size w w1 ∧ (w1.setCell ⟨g, 1, none⟩ (.bool true)).grownBy ((W.drew.setCell ⟨g, 1, none⟩ (.bool true)).setCells ob 0 (bts zB)) (some ob) := by
    refine ⟨?_, W.drew, HB.out.drew, moves_grown (Moves.puts (X := fun j _ => j = ob) (g := ob) (fun _ => rfl) _ _ _)⟩
    have := Bk.puts (bts zB) (bts zB) 0 _ HO.out (by omega)
    rwa [put_whole rfl] at this
  obtain ⟨WF, hWF⟩ : ∃ WF, (W.drew.setCell ⟨g, 1, none⟩ (.bool true)).setCells ob 0 (bts zB) = WF := ⟨_, rfl⟩
  have FIN : Hid (∀ a', a'.defers = [] → Q' .normal a' ((W.drew.setCell ⟨g, 1, none⟩ (.bool true)).setCells ob 0 (bts zB))) := Lib.hid (by
    intro a' ha
    rw [hWF] at hfin ⊢
    refine HQ.out _ _ _ ?_
    clear HQ R1 R2 TH HO HB c1 c2 z2 hWF
    cases c₀
    simp_all [bodyPostS, results, Tryd.results54])
  clear hfin hWF
  refine wp_region_any mixed ?_
  change wpAny _ _ _ _ _ _ _ (World.drew _)
  refine wpAny_ready (rs := [0, 1]) (by kernel_rfl) (by simp) ?_
  refine AllReady.cons rfl (fun K hK => ?_) ?_
  · skip
    go_simp
    refine hK _ _ ?_
    clear hK K
    refine wpAny_ready (rs := [1, 2]) (by kernel_rfl) (by simp) ?_
    refine AllReady.cons rfl (fun K hK => ?_) ?_
    · skip
      refine step_val (by rfl) (run_load_seg 29 _ (by rfl) (n1 + 1) 0 (by rfl) _ R1.out 32 (by rw [bts_len]; rfl) _ Tryd.underlying29 (by rfl) hhi) ?_
      try go_simp
      refine hK _ _ ?_
      clear hK K
      refine wpAny_ready (rs := [2]) (by kernel_rfl) (by simp) ?_
      refine AllReady.cons rfl (fun K hK => ?_) AllReady.nil
      · skip
        go_simp
        refine hK _ _ ?_
        clear hK K
        refine wpAny_ready (rs := [3]) (by kernel_rfl) (by simp) ?_
        refine AllReady.cons rfl (fun K hK => ?_) AllReady.nil
        · skip
          go_simp
          refine hK _ _ ?_
          clear hK K
          refine wpAny_ready (rs := [4]) (by kernel_rfl) (by simp) ?_
          refine AllReady.cons rfl (fun K hK => ?_) AllReady.nil
          · skip
            go_simp
            refine hK _ _ ?_
            clear hK K
            refine wpAny_ready (rs := [5]) (by kernel_rfl) (by simp) ?_
            refine AllReady.cons rfl (fun K hK => ?_) AllReady.nil
            · skip
              refine step_skip (by rfl) (run_store_sg 29 _ _ (by rfl) ob 0 (by rfl) (bts zB) (by rfl) 32 (by rw [bts_len]; rfl) TH.out hhi bts_all) ?_
              try go_simp
              refine hK _ _ ?_
              clear hK K
              refine wpAny_done (by kernel_rfl) ?_ _
              exact FIN.out _ rfl
    refine AllReady.cons rfl (fun K hK => ?_) AllReady.nil
    · skip
      go_simp
      refine hK _ _ ?_
      clear hK K
      refine wpAny_ready (rs := [1, 3]) (by kernel_rfl) (by simp) ?_
      refine AllReady.cons rfl (fun K hK => ?_) ?_
      · skip
        refine step_val (by rfl) (run_load_seg 29 _ (by rfl) (n1 + 1) 0 (by rfl) _ R1.out 32 (by rw [bts_len]; rfl) _ Tryd.underlying29 (by rfl) hhi) ?_
        try go_simp
        refine hK _ _ ?_
        clear hK K
        refine wpAny_ready (rs := [3]) (by kernel_rfl) (by simp) ?_
        refine AllReady.cons rfl (fun K hK => ?_) AllReady.nil
        · skip
          go_simp
          refine hK _ _ ?_
          clear hK K
          refine wpAny_ready (rs := [4]) (by kernel_rfl) (by simp) ?_
          refine AllReady.cons rfl (fun K hK => ?_) AllReady.nil
          · skip
            go_simp
            refine hK _ _ ?_
            clear hK K
            refine wpAny_ready (rs := [5]) (by kernel_rfl) (by simp) ?_
            refine AllReady.cons rfl (fun K hK => ?_) AllReady.nil
            · skip
              refine step_skip (by rfl) (run_store_sg 29 _ _ (by rfl) ob 0 (by rfl) (bts zB) (by rfl) 32 (by rw [bts_len]; rfl) TH.out hhi bts_all) ?_
              try go_simp
              refine hK _ _ ?_
              clear hK K
              refine wpAny_done (by kernel_rfl) ?_ _
              exact FIN.out _ rfl
      refine AllReady.cons rfl (fun K hK => ?_) AllReady.nil
      · skip
        go_simp
        refine hK _ _ ?_
        clear hK K
        refine wpAny_ready (rs := [1, 4]) (by kernel_rfl) (by simp) ?_
        refine AllReady.cons rfl (fun K hK => ?_) ?_
        · skip
          refine step_val (by rfl) (run_load_seg 29 _ (by rfl) (n1 + 1) 0 (by rfl) _ R1.out 32 (by rw [bts_len]; rfl) _ Tryd.underlying29 (by rfl) hhi) ?_
          try go_simp
          refine hK _ _ ?_
          clear hK K
          refine wpAny_ready (rs := [4]) (by kernel_rfl) (by simp) ?_
          refine AllReady.cons rfl (fun K hK => ?_) AllReady.nil
          · skip
            go_simp
            refine hK _ _ ?_
            clear hK K
            refine wpAny_ready (rs := [5]) (by kernel_rfl) (by simp) ?_
            refine AllReady.cons rfl (fun K hK => ?_) AllReady.nil
            · skip
              refine step_skip (by rfl) (run_store_sg 29 _ _ (by rfl) ob 0 (by rfl) (bts zB) (by rfl) 32 (by rw [bts_len]; rfl) TH.out hhi bts_all) ?_
              try go_simp
              refine hK _ _ ?_
              clear hK K
              refine wpAny_done (by kernel_rfl) ?_ _
              exact FIN.out _ rfl
        refine AllReady.cons rfl (fun K hK => ?_) AllReady.nil
        · skip
          go_simp
          refine hK _ _ ?_
          clear hK K
          refine wpAny_ready (rs := [1]) (by kernel_rfl) (by simp) ?_
          refine AllReady.cons rfl (fun K hK => ?_) AllReady.nil
          · skip
            refine step_val (by rfl) (run_load_seg 29 _ (by rfl) (n1 + 1) 0 (by rfl) _ R2.out 32 (by rw [bts_len]; rfl) _ Tryd.underlying29 (by rfl) hhi) ?_
            try go_simp
            refine hK _ _ ?_
            clear hK K
            refine wpAny_ready (rs := [5]) (by kernel_rfl) (by simp) ?_
            refine AllReady.cons rfl (fun K hK => ?_) AllReady.nil
            · skip
              refine step_skip (by rfl) (run_store_sg 29 _ _ (by rfl) ob 0 (by rfl) (bts zB) (by rfl) 32 (by rw [bts_len]; rfl) TH.out hhi bts_all) ?_
              try go_simp
              refine hK _ _ ?_
              clear hK K
              refine wpAny_done (by kernel_rfl) ?_ _
              exact FIN.out _ rfl
  refine AllReady.cons rfl (fun K hK => ?_) AllReady.nil
  · skip
    refine step_val (by rfl) (run_load_seg 29 _ (by rfl) (n1 + 1) 0 (by rfl) _ R1.out 32 (by rw [bts_len]; rfl) _ Tryd.underlying29 (by rfl) hhi) ?_
    try go_simp
    refine hK _ _ ?_
    clear hK K
    refine wpAny_ready (rs := [0]) (by kernel_rfl) (by simp) ?_
    refine AllReady.cons rfl (fun K hK => ?_) AllReady.nil
    · skip
      go_simp
      refine hK _ _ ?_
      clear hK K
      refine wpAny_ready (rs := [2]) (by kernel_rfl) (by simp) ?_
      refine AllReady.cons rfl (fun K hK => ?_) AllReady.nil
      · skip
        go_simp
        refine hK _ _ ?_
        clear hK K
        refine wpAny_ready (rs := [3]) (by kernel_rfl) (by simp) ?_
        refine AllReady.cons rfl (fun K hK => ?_) AllReady.nil
        · skip
          go_simp
          refine hK _ _ ?_
          clear hK K
          refine wpAny_ready (rs := [4]) (by kernel_rfl) (by simp) ?_
          refine AllReady.cons rfl (fun K hK => ?_) AllReady.nil
          · skip
            go_simp
            refine hK _ _ ?_
            clear hK K
            refine wpAny_ready (rs := [5]) (by kernel_rfl) (by simp) ?_
            refine AllReady.cons rfl (fun K hK => ?_) AllReady.nil
            · skip
              refine step_skip (by rfl) (run_store_sg 29 _ _ (by rfl) ob 0 (by rfl) (bts zB) (by rfl) 32 (by rw [bts_len]; rfl) TH.out hhi bts_all) ?_
              try go_simp
              refine hK _ _ ?_
              clear hK K
              refine wpAny_done (by kernel_rfl) ?_ _
              exact FIN.out _ rfl
theorem h_some {v : Value} {l l' : List UInt8} (h : hashR l = some (v, l')) : ∃ x : List UInt8, x.length = 32 ∧ v = .agg (bts x).toArray := by
  unfold hashR at h
  split at h
  · simp only [Option.some.injEq, Prod.mk.injEq] at h
    exact ⟨_, by rw [List.length_take]; omega, h.1.symm⟩
  · cases h
set_option maxHeartbeats 2000000 in
theorem read_hash (g b : Nat) (l : List UInt8) (w : World) (h : Rs w g l false) (hb : w.cell? ⟨b, 0, none⟩ = some (.pointer (some ⟨g, 0, none⟩))) :
    Calls Tryd.prog 42 #[.pointer (some ⟨g, 0, none⟩), .func (.func 43) #[] #[.pointer (some ⟨b, 0, none⟩)]] w (ReadP w g (hashR l) (.agg (bts zB).toArray)) := by
  have hzh := zero_hash
  have hmf : ∀ (fn : Fn) (first cap : Array Value) (w : World), (Instr.makeFunc fn first cap).run Tryd.prog w = .ok (.func fn first cap) w := fun _ _ _ _ => rfl
  obtain ⟨n0, hn0⟩ : ∃ n0, w.heap.size = n0 := ⟨_, rfl⟩
  obtain ⟨W, hW⟩ : ∃ W, (w.alloc (.cells #[.pointer (some ⟨g, 0, none⟩)] 44)).alloc (.cells (bts zB).toArray 29) = W := ⟨_, rfl⟩
  have hbel : Below w.heap.size w W := by rw [← hW]; exact (by (first | assumption | (repeat (first | exact Below.refl _ _ | assumption | apply Below.drew | apply below_drewN | (refine Below.setCell ?_ (by (try simp) <;> omega) _) | (refine Below.alloc ?_ (by (try simp) <;> omega) _)))))
  have hR := h.old hbel
  have c1 : W.cell? ⟨g, 1, none⟩ = some (.bool false) := by obtain ⟨A, c, hk, _⟩ := hR; exact hk.cell 1
  have hbW : W.cell? ⟨b, 0, none⟩ = some (.pointer (some ⟨g, 0, none⟩)) := by
    have : b < w.heap.size := World.block_lt_of_cell? w _ hb
    exact (hbel.cell (p := ⟨b, 0, none⟩) this).trans hb
  have k0 : Bk W n0 44 #[.pointer (some ⟨g, 0, none⟩)] := by rw [← hW, ← hn0]; exact (Bk.new w _ _).alloc _
  have k1 : Bk W (n0 + 1) 29 (bts zB).toArray := by rw [← hW, ← hn0]; have := Bk.new (w.alloc (.cells #[.pointer (some ⟨g, 0, none⟩)] 44)) 29 (bts zB).toArray; simpa using this
  have HC := Lib.hid (hashC g b l W hR hbW)
  have HB := Lib.hid hbel
  have HR := Lib.hid hR
  have HK0 := Lib.hid k0
  have HK1 := Lib.hid k1
  have HG := Lib.hid h.lt
  have d0 : W.cell? ⟨n0, 0, none⟩ = some (.pointer (some ⟨g, 0, none⟩)) := k0.cell 0
  clear h hb hbel hR hbW k0 k1
  go_enter_defers Tryd.func42, Tryd.ntmps42
  go_wp2_with fail
  with_reducible refine HC.out.mono ?_
  rintro e w2 ⟨hg2, hv2⟩
  have HG2 := Lib.hid hg2
  have k0 := HG2.out.bk HK0.out (by intro e; have := HG.out; have := Option.some.inj e; omega)
  have k1 := HG2.out.bk HK1.out (by intro e; have := HG.out; have := Option.some.inj e; omega)
  have HK0' := Lib.hid k0
  have HK1' := Lib.hid k1
  clear hg2 k0 k1 HC d0 c1
  cases hw : hashR l with
  | some x =>
    obtain ⟨v, l'⟩ := x
    rw [hw] at hv2
    obtain ⟨x, hx, rfl⟩ := h_some hw
    obtain ⟨rfl, hR2⟩ := hv2
    have HR2 := Lib.hid hR2
    have HW := Lib.hid hw
    have HX := Lib.hid (show (bts x).length = 32 by rw [bts_len]; exact hx)
    have HXX := Lib.hid hx
    clear hR2 hw hx
    go_wp2_with (refine wpList_puts (by rfl) 29 _ _ (by with_reducible rfl) (n0 + 1) 0 (by rfl) (bts x) (by rfl) 29 (bts zB) (by exact HK1'.out) 32 HX.out (by rw [bts_len]; decide) hhi bts_all ?_; intro w3 hb_ hm_ hz_; have HB3 := Lib.hid hb_; have HM3 := Lib.hid hm_; clear hb_ hm_ hz_)
    have k3 : Bk w3 (n0 + 1) 29 (bts x).toArray := by have := HB3.out; rwa [put_whole (by rw [bts_len, HX.out]; rfl)] at this
    refine leaves_cons (f := 54) (args := #[.pointer (some ⟨n0, 0, none⟩), .pointer (some ⟨n0 + 1, 0, none⟩)]) (by simp) (by simp [go_sem]) ?_
    refine (idle_hash ⟨n0, 0, none⟩ ⟨n0 + 1, 0, none⟩ _).mono ?_
    rintro e u' w'' ⟨rfl, rfl, rfl⟩
    have hfin : ReadP w g (some (.agg (bts x).toArray, l')) (.agg (bts zB).toArray) (.returned (.agg (bts x).toArray)) w'' :=
      ⟨grown_two HB.out HG2.out (moves_grown HM3.out) (by omega), rfl, HR2.out.move (moves_grown HM3.out) (by have := HG.out; omega) (HK1'.out.no8 (by decide))⟩
    rw [← HW.out] at hfin
    exact ⟨_, results_cell_row rfl _ _ (n0 + 1) 29 (bts x).toArray (0, 0) _ (by rfl) k3 Tryd.underlying29 rfl (by rw [hhi]; simp [HX.out]), hfin⟩
  | none =>
    rw [hw] at hv2
    obtain ⟨l', rfl, hR2⟩ := hv2
    have HR2 := Lib.hid hR2
    have b1 : w2.cell? ⟨g, 1, none⟩ = some (.bool false) := by obtain ⟨A, c, hk, _⟩ := hR2; exact hk.cell 1
    have b2 : w2.frozen? ⟨g, 1, none⟩ = false := by obtain ⟨A, c, hk, _⟩ := hR2; exact hk.frozen 1
    have hsz : n0 + 1 < w2.heap.size := HK1'.out.lt
    have hgn : g < n0 := by rw [← hn0]; exact HG.out
    have HW := Lib.hid hw
    clear hR2 hw
    refine leaves_cons (f := 54) (args := #[.pointer (some ⟨n0, 0, none⟩), .pointer (some ⟨n0 + 1, 0, none⟩)]) (by simp) (by simp [go_sem]) ?_
    refine (catch_hash g n0 (n0 + 1) [] w2 (HK0'.out.cell 0) b1 b2 HK1'.out (by omega) (by omega) (by omega) (by omega)).mono ?_
    rintro e u' w'' ⟨rfl, rfl, k3, w3, hb3, hg3⟩
    have hR3 : Rs w'' g l' true := by
      have h2 := HR2.out.old hb3
      obtain ⟨A, c, hk, hlc, hcm, hs, hz, htg⟩ := h2
      have h3 : Rs (w3.setCell ⟨g, 1, none⟩ (.bool true)) g l' true := Rs.set hk hs htg hlc hcm hz 1 _ rfl
      exact h3.move hg3 (by omega) (((HK1'.out.below hb3 HK1'.out.lt).far (p := ⟨g, 1, none⟩) (by show n0 + 1 ≠ g; omega) (.bool true)).no8 (by decide))
    have hfin : ReadP w g none (.agg (bts zB).toArray) (.returned (.agg (bts zB).toArray)) w'' :=
      ⟨grown_two HB.out (Lib.grownBy_setB (Lib.grownBy_below HG2.out hb3) 1 _) hg3 (by omega), l', rfl, hR3⟩
    exact ⟨_, results_cell_row rfl _ _ (n0 + 1) 29 (bts zB).toArray (0, 0) _ (by rfl) k3 Tryd.underlying29 rfl (by rw [hhi]; simp [bts_len, zB_len]), hfin⟩
end Go.Proofs.YtclnpglnomfjkaaDoor

/- What this text proves: the contract of the document's with of layer 7: a list by rising keys, with one more. The conditions are how the list lies in memory, that it rises, and that the key is not there. -/
import Derived.Test.YtlocapkofmpebaaVsRefA
import Derived.Deep.CutBlock
import Derived.Deep.DeepCutAuto
namespace Go.Proofs.Ytlocapkofmpebaa
open Go.RowKit
set_option linter.unusedVariables false
set_option linter.unusedSimpArgs false

theorem Bk.new' {w : World} {t : TypeId} {cs : Array Value} {g : Nat} (h : w.heap.size = g) : Bk (w.alloc (.cells cs t)) g t cs := h ▸ Bk.new w t cs

theorem vown_n {W : World} {B n : Nat} {v : Value} {l : VL} (h : VOwn W B v l) (hl : l.length = n) : W.ownsRow B 26 2 v n (vCells l) := hl ▸ h
theorem vown_back {W : World} {B n : Nat} {v : Value} {l : VL} (hl : l.length = n) (h : W.ownsRow B 26 2 v n (vCells l)) : VOwn W B v l := by
  subst hl
  exact h
/-- What the first append gives. -/
theorem step_fst {ops : Array Oper} {o : Oper} {a : Act} {K : Act → World → Prop} {Q : Exit → Act → World → Prop} {E : Prop} (D W : World) (l : VL) (A : Option Addr) (n c g : Nat) (hgd : o.guard = none) (s x : Operand)
    (ho : o.op = .call { callee := .builtin .append, args := #[s, x], argTypes := #[22, 22] }) (hs : a.eval s = .slice (some ⟨g, 0, none⟩) 0 0) (hx : a.eval x = .slice A n c)
    (hn : l.length = n) (hl : n ≤ 1000000) (hA : Sl D D.heap.size 2 A l.length (vCells l)) (hb : Below D.heap.size D W) (hg : Bk W g 26 #[]) (hge : D.heap.size ≤ g)
    (h : ∀ v w', VOwn w' D.heap.size v l → Below D.heap.size D w' → (∀ h cs, h ≠ g → Bk W h 26 cs → Bk w' h 26 cs) → K (a.put o.dst v) w') :
    if Region.wanted o (yielded ops a.tmps) = true then Oper.wp Try.prog o a W K Q else E := by
  subst hn
  obtain ⟨i0, hi0, hz0, hz1, hz2⟩ := info_parts val_info
  rw [if_pos (by simp [Region.wanted, hgd])]
  have hown : W.ownsRow D.heap.size 26 2 (.slice (some ⟨g, 0, none⟩) 0 0) 0 [] := ⟨rfl, .inr ⟨g, 0, #[], rfl, hge, hg, Nat.le_refl _, by unfold maxLen; omega, rfl, rfl⟩⟩
  obtain ⟨v', w', hr, h2, h3, h5⟩ := run_append_sl (P := Try.prog) W D.heap.size 22 o.type 26 i0 _ 2 16 Try.underlying22 hi0 hz0 hz1 hz2 rfl (by omega) (.slice (some ⟨g, 0, none⟩) 0 0) 0 [] hown A l.length c (vCells l) ((hA.below hb).more hb.size) (vCells_one l) (by unfold maxLen; omega) (by omega) hb.size
  unfold Oper.wp execOp
  simp only [ho, resolve, invoke, builtin, Sem.run_bind, Sem.run_pure, Result.andThen_ok, List.map_toArray, List.map_cons, List.map_nil, hs, hx, hr]
  refine h _ _ ?_ (hb.grown h3 hb.size (fun k hk => (own_cells hown hk).1)) (fun j cs hj hk => hk.grown h3 (by simp [Value.ownBlock]; omega))
  rw [Nat.zero_add, List.nil_append] at h2
  exact h2
/-- What the second append gives. -/
theorem step_snd {ops : Array Oper} {o : Oper} {a : Act} {K : Act → World → Prop} {Q : Exit → Act → World → Prop} {E : Prop} (D W : World) (B : Nat) (hB : B ≤ W.heap.size) (l : VL) (k p : Int) (v : Value) (g : Nat) (hgd : o.guard = none) (s x : Operand)
    (ho : o.op = .call { callee := .builtin .append, args := #[s, x], argTypes := #[22, 22] }) (hs : a.eval s = v) (hx : a.eval x = .slice (some ⟨g, 0, none⟩) 1 1)
    (hl : l.length ≤ 1000000) (hv : VOwn W B v l) (hb : Below B D W) (hg : Bk W g 26 #[.int .u64 k, .int .i64 p])
    (h : ∀ v' w', VOwn w' B v' (l ++ [(k, p)]) → Below B D w' → K (a.put o.dst v') w') :
    if Region.wanted o (yielded ops a.tmps) = true then Oper.wp Try.prog o a W K Q else E := by
  obtain ⟨i0, hi0, hz0, hz1, hz2⟩ := info_parts val_info
  rw [if_pos (by simp [Region.wanted, hgd])]
  have S : Sl W W.heap.size 2 (some ⟨g, 0, none⟩) 1 [.int .u64 k, .int .i64 p] := ⟨rfl, fun _ => ⟨g, 0, rfl, hg.lt, fun j u hj => by rw [Nat.zero_add, hg.cell]; simpa using hj⟩⟩
  obtain ⟨v', w', hr, h2, h3, h5⟩ := run_append_sl (P := Try.prog) W B 22 o.type 26 i0 _ 2 16 Try.underlying22 hi0 hz0 hz1 hz2 rfl (by omega) v l.length (vCells l) hv (some ⟨g, 0, none⟩) 1 1 _ S (by intro u hu; simp at hu; rcases hu with rfl | rfl <;> rfl) (by unfold maxLen; omega) (by omega) hB
  unfold Oper.wp execOp
  simp only [ho, resolve, invoke, builtin, Sem.run_bind, Sem.run_pure, Result.andThen_ok, List.map_toArray, List.map_cons, List.map_nil, hs, hx, hr]
  exact h _ _ (vown_app rfl rfl h2) (hb.grown h3 hB (fun j hj => (own_cells hv hj).1))

/-- A list with one more, put in at a place. -/
def putV (l : VL) (j : Nat) (v : Int × Int) : VL := l.take j ++ v :: l.drop j
theorem putV_len (l : VL) (j : Nat) (v : Int × Int) : (putV l j v).length = l.length + 1 := by
  unfold putV
  rw [List.length_append, List.length_cons, List.length_take, List.length_drop]
  omega
theorem putV_end (l : VL) (v : Int × Int) : putV l l.length v = l ++ [v] := by
  unfold putV
  rw [List.take_length, List.drop_length]
theorem putV_swap : ∀ (l : VL) (j : Nat) (u v : Int × Int), l[j]? = some u → ((putV l (j + 1) v).set (j + 1) u).set j v = putV l j v
  | [], j, u, v, h => by simp at h
  | a :: l, 0, u, v, h => by
    simp at h
    subst h
    rfl
  | a :: l, j + 1, u, v, h => by
    have := putV_swap l j u v (by simpa using h)
    show a :: ((putV l (j + 1) v).set (j + 1) u).set j v = a :: putV l j v
    rw [this]
theorem putV_get {l : VL} {j : Nat} {u v : Int × Int} (h : l[j]? = some u) : (putV l (j + 1) v)[j]? = some u ∧ (putV l (j + 1) v)[j + 1]? = some v := by
  have hj := (List.getElem?_eq_some_iff.1 h).1
  unfold putV
  constructor
  · rw [List.getElem?_append_left (by rw [List.length_take]; omega), List.getElem?_take, if_pos (by omega)]
    exact h
  · rw [List.getElem?_append_right (by rw [List.length_take]; omega), List.length_take, show j + 1 - min (j + 1) l.length = 0 from by omega]
    rfl
/-- Where the key belongs. -/
theorem putV_up {l : VL} {j : Nat} {k p : Int} (hu : Up l) (hno : hasV l k = false) (hj : j ≤ l.length) (h1 : ∀ v ∈ l.drop j, k < v.1) (h2 : ∀ u, 0 < j → l[j - 1]? = some u → ¬ k < u.1) : putV l j (k, p) = lo l k ++ (k, p) :: hi l k := by
  have hne : ∀ v ∈ l, v.1 ≠ k := by
    intro v hv e
    unfold hasV at hno
    rw [List.any_eq_false] at hno
    exact hno v hv (by simpa using e)
  have hlow : ∀ v ∈ l.take j, v.1 < k := by
    intro v hv
    rcases Nat.eq_zero_or_pos j with h0 | h0
    · subst h0; simp at hv
    · obtain ⟨u, hu1⟩ : ∃ u, l[j - 1]? = some u := ⟨_, List.getElem?_eq_getElem (by omega)⟩
      have h3 := h2 u h0 hu1
      have h4 := hne u (List.mem_of_getElem? hu1)
      obtain ⟨i, hi⟩ := List.mem_iff_getElem?.1 hv
      rw [List.getElem?_take] at hi
      split at hi
      · rename_i hij
        rcases Nat.lt_or_ge i (j - 1) with h5 | h5
        · have := rising_of_up hu i (j - 1) v u h5 hi hu1
          omega
        · have e : i = j - 1 := by omega
          subst e
          have := hi.symm.trans hu1
          cases this
          omega
      · cases hi
  have e1 : lo l k = l.take j := by
    unfold lo
    conv => lhs; rw [← List.take_append_drop j l]
    rw [List.filter_append, List.filter_eq_self.2 (fun v hv => by simpa using hlow v hv), List.filter_eq_nil_iff.2 (fun v hv => by have := h1 v hv; simp; omega), List.append_nil]
  have e2 : hi l k = l.drop j := by
    unfold hi
    conv => lhs; rw [← List.take_append_drop j l]
    rw [List.filter_append, List.filter_eq_nil_iff.2 (fun v hv => by have := hlow v hv; simp; omega), List.nil_append, List.filter_eq_self.2 (fun v hv => by simpa using h1 v hv)]
  rw [e1, e2]
  rfl

set_option maxRecDepth 100000 in
set_option maxHeartbeats 4000000 in
theorem with_any (A : Option Addr) (l : VL) (c : Nat) (k p : Int) (w : World) (hl : l.length ≤ 900000) (hA : Sl w w.heap.size 2 A l.length (vCells l)) (hu : Up l) (hno : hasV l k = false) :
    Calls Try.prog 21 #[.slice A l.length c, .agg #[.int .u64 k, .int .i64 p]] w fun e w' => ∃ v, e = .returned v ∧ VOwn w' w.heap.size v (lo l k ++ (k, p) :: hi l k) ∧ Below w.heap.size w w' := by
  obtain ⟨B, hB⟩ : ∃ B, w.heap.size = B := ⟨_, rfl⟩
  obtain ⟨w1, hw1⟩ : ∃ W, w.alloc (.cells #[.int .u64 k, .int .i64 p] 26) = W := ⟨_, rfl⟩
  have L1 : Hid (Below w.heap.size w w1) := Lib.hid (by rw [← hw1]; exact alloc_bel _ _ _)
  have hk1 : Bk w1 B 26 #[.int .u64 k, .int .i64 p] := by rw [← hw1, ← hB]; exact Bk.new _ _ _
  have hs1 : w1.heap.size = B + 1 := by rw [← hw1, ← hB]; simp
  have SA := Lib.hid ((hA.below L1.out).more L1.out.size)
  have HU := Lib.hid hu
  have HNO := Lib.hid hno
  obtain ⟨n, hn⟩ : ∃ n, l.length = n := ⟨_, rfl⟩
  have HN := Lib.hid hn
  have hln : l.length ≤ 900000 := hl
  have HBW := Lib.hid hB
  have HS1 := Lib.hid hs1
  have LB : Hid (Below B w w1) := Lib.hid (by have := L1.out; rw [hB] at this; exact this)
  rw [hn] at hl ⊢
  rw [hB]
  obtain ⟨Q, hQ⟩ : ∃ Q, (fun (e : Ending) (w' : World) => ∃ v, e = .returned v ∧ VOwn w' B v (lo l k ++ (k, p) :: hi l k) ∧ Below B w w') = Q := ⟨_, rfl⟩
  have HQ := Lib.hid hQ
  rw [hQ]
  have c0 : w1.cell? ⟨B, 0, none⟩ = some (.int .u64 k) := hk1.cell 0
  have c1 : w1.cell? ⟨B, 1, none⟩ = some (.int .i64 p) := hk1.cell 1
  clear hA hu hno hn hQ hs1 hk1
  go_enter Try.func21, Try.ntmps21
  go_upto_region 1 with fail
  clear hw1
  go_cut [5] (fun s wx => VOwn wx B s (l ++ [(k, p)]) ∧ Below B w wx)
  case first =>
    have mixed : Try.prog.follows Departure.mixedOrders = true := by kernel_rfl
    have HC : Hid (∀ W, Below w1.heap.size w1 W → W.cell? ⟨B, 0, none⟩ = some (.int .u64 k) ∧ W.cell? ⟨B, 1, none⟩ = some (.int .i64 p)) := Lib.hid (fun W hb => ⟨(hb.cell (p := ⟨B, 0, none⟩) (by have := HS1.out; show B < _; omega)).trans c0, (hb.cell (p := ⟨B, 1, none⟩) (by have := HS1.out; show B < _; omega)).trans c1⟩)
    obtain ⟨b0, b1⟩ := HC.out _ (alloc_bel w1 #[] 26)
    go_region_law (first
      | (refine step_fst w1 _ l A n c _ (by rfl) _ _ (by rfl) (by rfl) (by rfl) HN.out (by omega) SA.out (by (first | assumption | (repeat (first | exact Below.refl _ _ | assumption | apply Below.drew | apply below_drewN | (refine Below.setCell ?_ (by (try simp) <;> omega) _) | (refine Below.alloc ?_ (by (try simp) <;> omega) _))))) (by first | exact (Bk.new' (by simp)).drew | exact ((Bk.new' (by simp)).alloc _).drew | exact Bk.new' (by simp) | exact (Bk.new' (by simp)).alloc _) (by simp) ?_; intro v10 w10 ho10 hb10 hfar; obtain ⟨d0, d1⟩ := HC.out _ hb10; have hz10 := hb10.size)
      | (refine step_snd w1 _ w1.heap.size (Below.size (B := w1.heap.size) (w := w1) (by (first | assumption | (repeat (first | exact Below.refl _ _ | assumption | apply Below.drew | apply below_drewN | (refine Below.setCell ?_ (by (try simp) <;> omega) _) | (refine Below.alloc ?_ (by (try simp) <;> omega) _)))))) l k p _ _ (by rfl) _ _ (by rfl) (by rfl) (by rfl) (by omega) (by first | exact ho10 | exact vown_bl ho10 (alloc_bel _ _ _)) (by (first | assumption | (repeat (first | exact Below.refl _ _ | assumption | apply Below.drew | apply below_drewN | (refine Below.setCell ?_ (by (try simp) <;> omega) _) | (refine Below.alloc ?_ (by (try simp) <;> omega) _))))) (by first | exact Bk.new' (by simp) | exact hfar _ _ (by simp) (Bk.new' (by simp)).drew | exact hfar _ _ (by simp) ((Bk.new' (by simp)).alloc _).drew) ?_; intro v13 w13 ho13 hb13))
    all_goals
      clear c0 c1 b0 b1 d0 d1
      go_wp2_with fail
      go_meet
      exact ⟨vown_low ho13 (by have := HS1.out; omega), LB.out.trans (hb13.mono (by have := HS1.out; omega))⟩
  case rest =>
    obtain ⟨ho, hb⟩ := hcut
    have hpl := putV_end l (k, p)
    rw [HN.out] at hpl
    rw [← hpl] at ho
    obtain ⟨g, cap, hve, hbg, hgl⟩ := World.ownsRow.form ho (by rw [putV_len]; omega)
    rw [putV_len, HN.out] at hve
    have LC := Lib.hid hb
    have OC := Lib.hid ho
    rw [hve] at OC
    subst hve
    have HBG := Lib.hid hbg
    have hcap : n + 1 ≤ cap := by
      rcases OC.out.2 with ⟨h, _⟩ | ⟨g', cap', cur, h, _, _, hnc, _⟩
      · cases h
      · rw [putV_len, HN.out] at hnc
        simp only [Value.slice.injEq] at h
        omega
    have hcm : cap ≤ maxLen := by
      rcases OC.out.2 with ⟨h, _⟩ | ⟨g', cap', cur, h, _, _, hnc, hcm, _⟩
      · cases h
      · simp only [Value.slice.injEq] at h
        omega
    unfold maxLen at hcm
    have e0 : IntKind.i64.wrap ((n : Int) + 1 - 1) = (n : Int) := by rw [IntWalk.i64_in _ (by omega)]; omega
    clear hpl ho hb hbg c0 c1 hln
    go_wp2_with fail
    go_loopw [6] (fun i wr => ∃ (j : Nat), j ≤ n ∧ i = .int .i64 j ∧ VOwn wr B (.slice (some ⟨g, 0, none⟩) (n + 1) cap) (putV l j (k, p)) ∧ Below B w wr ∧ g < wr.heap.size ∧ (∀ v ∈ l.drop j, k < v.1)) (fun i _ => (intOf i).toNat)
    case atStart => exact ⟨n, by omega, by go_num, OC.out, LC.out, hgl, by rw [← HN.out, List.drop_length]; intro v hv; simp at hv⟩
    case round =>
      obtain ⟨j, hj, rfl, hown, hbel, hgr, hhi⟩ := hrel
      have OR := Lib.hid hown
      have LR := Lib.hid hbel
      have HH := Lib.hid hhi
      clear hown hbel hhi OC LC e0
      have fin : ∀ w', w'.heap = wr.heap → Below B w w' → putV l j (k, p) = lo l k ++ (k, p) :: hi l k → Q (.returned (.slice (some ⟨g, 0, none⟩) (n + 1) cap)) w' := fun w' hh hb he => by
        rw [← HQ.out]
        refine ⟨_, rfl, ?_, hb⟩
        rw [← he]
        have := OR.out
        unfold VOwn World.ownsRow at this ⊢
        rw [hh]
        exact this
      have HF := Lib.hid fin
      clear fin
      cases j with
      | zero =>
        have HE : Hid (putV l 0 (k, p) = lo l k ++ (k, p) :: hi l k) := Lib.hid (putV_up HU.out HNO.out (by omega) HH.out (fun u h => absurd h (by omega)))
        have e1 : decide ((0 : Int) < 0) = false := by decide
        rw [show ((0 : Nat) : Int) = 0 from rfl]
        go_wp2_with fail
        go_quiet (fail)
        clear e1
        go_wp2_with fail
        exact HF.out _ rfl (by have hb_ := LR.out; exact (by (first | assumption | (repeat (first | exact Below.refl _ _ | assumption | apply Below.drew | apply below_drewN | (refine Below.setCell ?_ (by (try simp) <;> omega) _) | (refine Below.alloc ?_ (by (try simp) <;> omega) _)))))) HE.out
      | succ j =>
        obtain ⟨ku, pu, hu1⟩ : ∃ ku pu, l[j]? = some (ku, pu) := ⟨_, _, List.getElem?_eq_getElem (by rw [HN.out]; omega)⟩
        have hpg := putV_get (v := (k, p)) hu1
        have hlp : (putV l (j + 1) (k, p)).length = n + 1 := by rw [putV_len, HN.out]
        have hgd1 : (putV l (j + 1) (k, p)).getD (j + 1) (0, 0) = (k, p) := by rw [List.getD_eq_getElem?_getD, hpg.2]; rfl
        have hgd0 : (putV l (j + 1) (k, p)).getD j (0, 0) = (ku, pu) := by rw [List.getD_eq_getElem?_getD, hpg.1]; rfl
        have hv1 := vCells_get (putV l (j + 1) (k, p)) (j + 1) (by omega)
        have hv0 := vCells_get (putV l (j + 1) (k, p)) j (by omega)
        rw [hgd1] at hv1
        rw [hgd0] at hv0
        have HV1 := Lib.hid hv1
        have HV0 := Lib.hid hv0
        have HLP := Lib.hid hlp
        have HU1 := Lib.hid hu1
        have cellsOf : ∀ W, VOwn W B (.slice (some ⟨g, 0, none⟩) (n + 1) cap) (putV l (j + 1) (k, p)) → W.cell? ⟨g, (j + 1) * 2, none⟩ = some (.int .u64 k) ∧ W.cell? ⟨g, (j + 1) * 2 + 1, none⟩ = some (.int .i64 p) ∧ W.cell? ⟨g, j * 2, none⟩ = some (.int .u64 ku) ∧ W.cell? ⟨g, j * 2 + 1, none⟩ = some (.int .i64 pu) := fun W hO =>
          ⟨(World.ownsRow.cellAt (vown_n hO HLP.out) _ (show _ < (n + 1) * 2 by omega)).trans HV1.out.1, (World.ownsRow.cellAt (vown_n hO HLP.out) _ (show _ < (n + 1) * 2 by omega)).trans HV1.out.2, (World.ownsRow.cellAt (vown_n hO HLP.out) _ (show _ < (n + 1) * 2 by omega)).trans HV0.out.1, (World.ownsRow.cellAt (vown_n hO HLP.out) _ (show _ < (n + 1) * 2 by omega)).trans HV0.out.2⟩
        have HC := Lib.hid cellsOf
        clear cellsOf hpg hlp hgd1 hgd0 hv1 hv0 hu1
        obtain ⟨d1, d2, d3, d4⟩ := HC.out wr OR.out
        have e1 : decide ((0 : Int) < (j : Int) + 1) = true := decide_eq_true (by omega)
        have e2 : IntKind.i64.wrap ((j : Int) + 1 - 1) = (j : Int) := by rw [IntWalk.i64_in _ (by omega)]; omega
        have e3 : ((j : Int) + 1).toNat = j + 1 := by omega
        have e5 : (j : Int) < (n : Int) + 1 := by omega
        have e6 : (j : Int) + 1 < (n : Int) + 1 := by omega
        have e7 : (0 : Int) ≤ (j : Int) + 1 := by omega
        rw [show ((j + 1 : Nat) : Int) = (j : Int) + 1 from rfl]
        by_cases hlt : k < ku
        · have e8 : decide (k < ku) = true := by simpa using hlt
          have HLT := Lib.hid hlt
          clear hlt
          go_wp2_with fail
          go_quiet (fail)
          clear d1 d2 d3 d4
          obtain ⟨wd, hwd⟩ : ∃ wd, wr.drewN nq = wd := ⟨_, rfl⟩
          rw [hwd]
          have OD : Hid (VOwn wd B (.slice (some ⟨g, 0, none⟩) (n + 1) cap) (putV l (j + 1) (k, p))) := Lib.hid (by rw [← hwd]; exact OR.out)
          have LD : Hid (Below B w wd) := Lib.hid (by rw [← hwd]; have hb_ := LR.out; exact (by (first | assumption | (repeat (first | exact Below.refl _ _ | assumption | apply Below.drew | apply below_drewN | (refine Below.setCell ?_ (by (try simp) <;> omega) _) | (refine Below.alloc ?_ (by (try simp) <;> omega) _))))))
          have hgd : g < wd.heap.size := by rw [← hwd]; exact hgr
          clear hwd
          obtain ⟨N, hN⟩ : ∃ N, wd.heap.size = N := ⟨_, rfl⟩
          obtain ⟨W, hW⟩ : ∃ W, wd.alloc (.cells #[.int .u64 k, .int .i64 p] 26) = W := ⟨_, rfl⟩
          have LW : Hid (Below wd.heap.size wd W) := Lib.hid (by rw [← hW]; exact alloc_bel _ _ _)
          have OW := Lib.hid (vown_n (vown_bl OD.out LW.out) HLP.out)
          have KW : Bk W N 26 #[.int .u64 k, .int .i64 p] := by rw [← hW, ← hN]; exact Bk.new _ _ _
          have LB2 : Hid (Below B w W) := Lib.hid (LD.out.trans (LW.out.mono (by have := HBG.out; omega)))
          have hgN : N ≠ g := by omega
          have s1 := World.ownsRow.stored OW.out ((j + 1) * 2) (.int .u64 ku)
          have s2 := World.ownsRow.stored s1.1 ((j + 1) * 2 + 1) (.int .i64 pu)
          have s3 := s2.1
          rw [vCells_set2] at s3
          obtain ⟨W2, hW2⟩ : ∃ W2, (W.setCell ⟨g, (j + 1) * 2, none⟩ (.int .u64 ku)).setCell ⟨g, (j + 1) * 2 + 1, none⟩ (.int .i64 pu) = W2 := ⟨_, rfl⟩
          rw [hW2] at s3
          have K2 : Bk W2 N 26 #[.int .u64 k, .int .i64 p] := by rw [← hW2]; exact (KW.far hgN _).far hgN _
          have s4 := World.ownsRow.stored s3 (j * 2) (.int .u64 k)
          have s5 := World.ownsRow.stored s4.1 (j * 2 + 1) (.int .i64 p)
          have s6 := s5.1
          rw [vCells_set2, putV_swap l j (ku, pu) (k, p) HU1.out] at s6
          have hgs : ((putV l (j + 1) (k, p)).set (j + 1) (ku, pu)).getD j (0, 0) = (ku, pu) := by
            have := (putV_get (v := (k, p)) HU1.out).1
            rw [List.getD_eq_getElem?_getD, List.getElem?_set_ne (by omega), this]
            rfl
          have hvs := vCells_get ((putV l (j + 1) (k, p)).set (j + 1) (ku, pu)) j (by rw [List.length_set]; have := HLP.out; omega)
          rw [hgs] at hvs
          have g1 : W2.cell? ⟨g, j * 2, none⟩ = some (.int .u64 ku) := (World.ownsRow.cellAt s3 _ (show _ < (n + 1) * 2 by omega)).trans hvs.1
          have g2 : W2.cell? ⟨g, j * 2 + 1, none⟩ = some (.int .i64 pu) := (World.ownsRow.cellAt s3 _ (show _ < (n + 1) * 2 by omega)).trans hvs.2
          have g3 : W2.frozen? ⟨g, j * 2, none⟩ = false := World.ownsRow.frozenAt s3 _
          have g4 : W2.frozen? ⟨g, j * 2 + 1, none⟩ = false := World.ownsRow.frozenAt s3 _
          have g5 : W2.cell? ⟨N, 0, none⟩ = some (.int .u64 k) := K2.cell 0
          have g6 : W2.cell? ⟨N, 1, none⟩ = some (.int .i64 p) := K2.cell 1
          obtain ⟨d1, d2, d3, d4⟩ := HC.out wd OD.out
          obtain ⟨f1, f2, f3, f4⟩ := HC.out W (vown_bl OD.out LW.out)
          have f5 : W.frozen? ⟨g, (j + 1) * 2, none⟩ = false := World.ownsRow.frozenAt OW.out _
          have f6 : W.frozen? ⟨g, (j + 1) * 2 + 1, none⟩ = false := World.ownsRow.frozenAt OW.out _
          have S6 : Hid (VOwn ((W2.setCell ⟨g, j * 2, none⟩ (.int .u64 k)).setCell ⟨g, j * 2 + 1, none⟩ (.int .i64 p)) B (.slice (some ⟨g, 0, none⟩) (n + 1) cap) (putV l j (k, p))) := Lib.hid (vown_back (by rw [putV_len, HN.out]) s6)
          have L2 : Hid (Below B w W2) := Lib.hid (by rw [← hW2]; exact (LB2.out.setCell HBG.out _).setCell HBG.out _)
          have L3 : Hid (Below B w ((W2.setCell ⟨g, j * 2, none⟩ (.int .u64 k)).setCell ⟨g, j * 2 + 1, none⟩ (.int .i64 p))) := Lib.hid ((L2.out.setCell HBG.out _).setCell HBG.out _)
          have hgW : g < W2.heap.size := by
            have h1 := LW.out.size
            rw [← hW2]
            simp
            omega
          have HGW := Lib.hid hgW
          have HHj : Hid (∀ v ∈ l.drop j, k < v.1) := Lib.hid (fun v hv => by
            rw [drop_at HU1.out] at hv
            rcases List.mem_cons.1 hv with rfl | hv
            · exact HLT.out
            · exact HH.out v hv)
          clear s1 s2 s3 s4 s5 s6 hgs hvs K2 KW hgW hgN e1 e8
          go_wp2_with fail
          go_roundw
          case rel => exact ⟨j, by omega, by go_num, S6.out, L3.out, by have := HGW.out; simp; omega, HHj.out⟩
          case measure => simp [intOf]
        · have e8 : decide (k < ku) = false := by simpa using hlt
          have HE : Hid (putV l (j + 1) (k, p) = lo l k ++ (k, p) :: hi l k) := Lib.hid (putV_up HU.out HNO.out (by rw [HN.out]; omega) HH.out (fun u h h2 => by
            have h3 := HU1.out
            simp only [Nat.add_sub_cancel] at h2
            rw [h3] at h2
            cases h2
            exact hlt))
          clear hlt
          go_wp2_with fail
          go_quiet (fail)
          clear d1 d2 d3 d4 e1 e2 e3 e5 e6 e7 e8
          go_wp2_with fail
          exact HF.out _ rfl (by have hb_ := LR.out; exact (by (first | assumption | (repeat (first | exact Below.refl _ _ | assumption | apply Below.drew | apply below_drewN | (refine Below.setCell ?_ (by (try simp) <;> omega) _) | (refine Below.alloc ?_ (by (try simp) <;> omega) _)))))) HE.out
end Go.Proofs.Ytlocapkofmpebaa

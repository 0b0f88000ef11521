/- What this text proves: the contract of the reference's voted. The conditions are that hashes have 32 bytes. -/
import Derived.Test.YtlhnhdkbfkbafaaDoorRefRound
namespace Go.Proofs.YtlhnhdkbfkbafaaDoor
open Go.RowKit
set_option linter.unusedVariables false
set_option linter.unusedSimpArgs false

/-- What is told by a state and what is said. -/
def RTold (w : World) (r : St × Option Out) (e : Ending) (w' : World) : Prop :=
  ∃ v, e = .returned (.tuple #[.agg r.1.cells.toArray, v]) ∧ ROutAt w' w.heap.size v r.2 ∧ Below w.heap.size w w'
theorem rvoted_results {tmps : Array Value} {w : World} {g : Nat} {s : St} {v : Value} (hs : s.good) (hb : Bk w g 31 s.cells.toArray) (hp : tmps.getD 8 undef = .pointer (some ⟨g, 0, none⟩)) (hv : tmps.getD 9 undef = v) :
    (results Tryd.f22 tmps).run Tryd.prog w = .ok (.tuple #[.agg s.cells.toArray, v]) w := by
  have hl := run_loadVar_mid (P := Tryd.prog) w g 0 31 s.cells _ hb.all Tryd.underlying31 rfl (by rw [hi_rstate, St.cells_len hs])
  have h : Tryd.f22.results = #[.cell 8 31, .tmp 9] := rfl
  have hp' : tmps[8]?.getD undef = .pointer (some ⟨g, 0, none⟩) := by simpa using hp
  have hv' : tmps[9]?.getD undef = v := by simpa using hv
  simp [results, h, hp', hv', asAddr, hl]
theorem rstep_results {tmps : Array Value} {w : World} {g : Nat} {s : St} {v : Value} (hs : s.good) (hb : Bk w g 31 s.cells.toArray) (hp : tmps.getD 4 undef = .pointer (some ⟨g, 0, none⟩)) (hv : tmps.getD 5 undef = v) :
    (results Tryd.f11 tmps).run Tryd.prog w = .ok (.tuple #[.agg s.cells.toArray, v]) w := by
  have hl := run_loadVar_mid (P := Tryd.prog) w g 0 31 s.cells _ hb.all Tryd.underlying31 rfl (by rw [hi_rstate, St.cells_len hs])
  have h : Tryd.f11.results = #[.cell 4 31, .tmp 5] := rfl
  have hp' : tmps[4]?.getD undef = .pointer (some ⟨g, 0, none⟩) := by simpa using hp
  have hv' : tmps[5]?.getD undef = v := by simpa using hv
  simp [results, h, hp', hv', asAddr, hl]
theorem set_getD_same {t : Array Value} {i : Nat} {v : Value} (h : i < t.size) : (t.setIfInBounds i v).getD i undef = v := by simp [h]
theorem set_getD_far {t : Array Value} {i j : Nat} {v : Value} (h : i ≠ j) : (t.setIfInBounds i v).getD j undef = t.getD j undef := by simp [Array.getElem?_setIfInBounds_ne h]
def votV (s : St) (r : Int) (b : List UInt8) (N : Nat) : Nat → Value → World → Prop
  | 0 => fun v _ => v = .agg s.cells.toArray
  | 1 => fun v _ => v = .int .i64 r
  | 2 => fun v _ => v = .agg (bts b).toArray
  | 3 => fun v W => ROutAt W N v (some ⟨2, r, b, 0⟩)
  | _ => fun _ _ => True
theorem votV_on {s : St} {r : Int} {b : List UInt8} {N : Nat} : ∀ (j : Nat) (v : Value) (W W' : World), votV s r b N j v W → Below W.heap.size W W' → votV s r b N j v W' := by
  intro j v W W' hv hb
  unfold votV at hv ⊢
  split at hv
  all_goals first | exact hv | exact ROutAt.below hv hb
set_option maxRecDepth 100000 in
set_option maxHeartbeats 2000000 in
theorem rvoted_any (s : St) (hs : s.good) (r : Int) (b : List UInt8) (hb : b.length = 32) (may : Bool) (w : World) :
    Calls Tryd.prog 22 #[.agg s.cells.toArray, .int .i64 r, .agg (bts b).toArray, .bool may] w (RTold w ({s with step := 2}, some ⟨2, r, if may then b else zeros, 0⟩)) := by
  have hzs := zero_rstate
  have hsl := St.cells_len hs
  have hbt : (bts b).length = 32 := by rw [bts_len, hb]
  have hzl : (bts zeros).length = 32 := by rw [bts_len, zeros_len]
  obtain ⟨n0, hn0⟩ : ∃ n0, w.heap.size = n0 := ⟨_, rfl⟩
  obtain ⟨w0, hw0⟩ : ∃ w0, ((w.alloc (.cells s.cells.toArray 31)).alloc (.cells (bts b).toArray 23)).alloc (.cells St.zero.cells.toArray 31) = w0 := ⟨_, rfl⟩
  have LB : Hid (Below w.heap.size w w0) := Lib.hid (by rw [← hw0]; exact (by (first | assumption | (repeat (first | exact Below.refl _ _ | assumption | apply Below.drew | apply below_drewN | (refine Below.setCell ?_ (by (try simp) <;> omega) _) | (refine Below.alloc ?_ (by (try simp) <;> omega) _))))))
  have B1 : Bk w0 n0 31 s.cells.toArray := by rw [← hw0, ← hn0]; exact ((Bk.new w _ _).alloc _).alloc _
  have B2 : Bk w0 (n0 + 1) 23 (bts b).toArray := by rw [← hw0, ← hn0]; have := (Bk.new (w.alloc (.cells s.cells.toArray 31)) 23 (bts b).toArray).alloc (.cells St.zero.cells.toArray 31); simpa using this
  have B3 : Bk w0 (n0 + 1 + 1) 31 St.zero.cells.toArray := by rw [← hw0, ← hn0]; have := Bk.new ((w.alloc (.cells s.cells.toArray 31)).alloc (.cells (bts b).toArray 23)) 31 St.zero.cells.toArray; simpa using this
  go_enter Tryd.func22, Tryd.ntmps22
  go_upto_region 1 with fail
  try rw [hw0]
  try rw [hn0]
  have hsz : w0.heap.size = n0 + 1 + 1 + 1 := by rw [← hw0, ← hn0]; simp
  have c1 : w0.cell? ⟨n0, 1, none⟩ = some (.int .i64 s.step) := (st_out B1 hs).2.1
  have hf1 := B1.frozen 1
  have S1 := set_step B1 2
  have R1 := B2.far (p := ⟨n0, 1, none⟩) (by show n0 + 1 ≠ n0; omega) (.int .i64 2)
  have Z1 := B3.far (p := ⟨n0, 1, none⟩) (by show n0 + 1 + 1 ≠ n0; omega) (.int .i64 2)
  have L1 : Below w.heap.size w (w0.setCell ⟨n0, 1, none⟩ (.int .i64 2)) := LB.out.setCell (by show w.heap.size ≤ n0; omega) _
  have hz1 : (w0.setCell ⟨n0, 1, none⟩ (.int .i64 2)).heap.size = n0 + 1 + 1 + 1 := by simp [World.setCell, hsz]
  obtain ⟨sx, hsx⟩ : ∃ sx : St, {s with step := 2} = sx := ⟨_, rfl⟩
  have hgx : sx.good := hsx ▸ ⟨hs.locked, hs.valid, hs.block⟩
  rw [hsx] at S1
  have HSX := Lib.hid hsx
  have HS0 := Lib.hid S1
  have HB0 := Lib.hid R1
  have HZ0 := Lib.hid Z1
  have HL0 := Lib.hid L1
  have hnw : w.heap.size = n0 := hn0
  clear S1 R1 Z1 L1 hzs hw0 B1 B2 B3 hsx
  cases may with
  | true =>
    go_upto_region 4 with fail
    obtain ⟨w1, hw1⟩ : ∃ w1, w0.setCell ⟨n0, 1, none⟩ (.int .i64 2) = w1 := ⟨_, rfl⟩
    have HS1 : Hid (Bk w1 n0 31 (sx).cells.toArray) := Lib.hid (hw1 ▸ HS0.out)
    have HB1 : Hid (Bk w1 (n0 + 1) 23 (bts b).toArray) := Lib.hid (hw1 ▸ HB0.out)
    have HZ1 : Hid (Bk w1 (n0 + 1 + 1) 31 St.zero.cells.toArray) := Lib.hid (hw1 ▸ HZ0.out)
    have L1D : Hid (Below w.heap.size w w1.drew) := Lib.hid ((hw1 ▸ HL0.out : Below w.heap.size w w1).trans (by (first | assumption | (repeat (first | exact Below.refl _ _ | assumption | apply Below.drew | apply below_drewN | (refine Below.setCell ?_ (by (try simp) <;> omega) _) | (refine Below.alloc ?_ (by (try simp) <;> omega) _))))))
    rw [hw1]
    try simp only [if_true]
    clear hw1 c1 hf1 hz1 HS0 HB0 HZ0 HL0
    obtain ⟨N, hN⟩ : ∃ N, w1.drew.heap.size = N := ⟨_, rfl⟩
    have HW : Hid (∀ W, Below w1.drew.heap.size w1.drew W → Bk W n0 31 (sx).cells.toArray ∧ Bk W (n0 + 1) 23 (bts b).toArray ∧ Bk W (n0 + 1 + 1) 31 St.zero.cells.toArray) := Lib.hid (fun W h => ⟨HS1.out.drew.below h (HS1.out.drew.lt), HB1.out.drew.below h (HB1.out.drew.lt), HZ1.out.drew.below h (HZ1.out.drew.lt)⟩)
    have hsl1 := St.cells_len (s := sx) hgx
    have hbl1 : (bts b).length = 32 := by rw [bts_len, hb]
    refine wp_region_each_tail 4 (votV (sx) r b N) (by kernel_rfl) (by kernel_rfl) votV_on ?turns ?fin
    case turns =>
      refine ⟨fun a W pre => .inl ?_, fun a W pre => .inl ?_, fun a W pre => .inl ?_, fun a W pre => .inl ?_, trivial⟩
      · have e4 : a.eval (.tmp 4) = .pointer (some ⟨n0, 0, none⟩) := pre.was 4 (by kernel_rfl) rfl
        exact does_val (want_none rfl) (run_load_seg 31 _ rfl n0 0 e4 (sx).cells (HW.out W pre.b).1.all 102 hsl1 _ Tryd.underlying31 rfl hi_rstate) rfl
      · have e1 : a.eval (.tmp 1) = .int .i64 r := pre.was 1 (by kernel_rfl) rfl
        have q1 := e1
        rw [Act.eval, Array.getD_eq_getD_getElem?] at q1
        exact does_val (want_none rfl) (by go_simp) rfl
      · have e6 : a.eval (.tmp 6) = .pointer (some ⟨n0 + 1, 0, none⟩) := pre.was 6 (by kernel_rfl) rfl
        exact does_val (want_none rfl) (run_load_seg 23 _ rfl (n0 + 1) 0 e6 (bts b) (HW.out W pre.b).2.1.all 32 hbl1 _ hu_hash rfl hi_hash) rfl
      · have e15 : a.eval (.tmp 15) = .int .i64 r := pre.val 1 15 (by kernel_rfl) (by kernel_rfl)
        have q15 := e15
        rw [Act.eval, Array.getD_eq_getD_getElem?] at q15
        have e16 : a.eval (.tmp 16) = .agg (bts b).toArray := pre.val 2 16 (by kernel_rfl) (by kernel_rfl)
        have q16 := e16
        rw [Act.eval, Array.getD_eq_getD_getElem?] at q16
        refine does_call_ex (want_none rfl) (by go_simp) ((rone_any 2 r 0 b hb W).mono fun e W' hx => ?_)
        obtain ⟨u, h1, h2, h3⟩ := hx
        exact ⟨u, h1, h2.less (hN ▸ pre.b.size), h3⟩
    case fin =>
      intro a W hb hsz2 hd hv ho
      have q14 : a.eval (.tmp 14) = .agg (sx).cells.toArray := hv 0 14 (by decide) (by kernel_rfl)
      have q17 : ROutAt W N (a.eval (.tmp 17)) (some ⟨2, r, b, 0⟩) := hv 3 17 (by decide) (by kernel_rfl)
      have q8 : a.eval (.tmp 8) = .pointer (some ⟨n0 + 1 + 1, 0, none⟩) := ho 8 (no_dst (by kernel_rfl))
      have hs8 : 17 < a.tmps.size := by rw [hsz2]; first | (simp; done) | (show 17 < 18; decide)
      have hbk := (HW.out W hb).2.2
      have hBl : Below w.heap.size w W := (L1D.out.trans (hb.mono L1D.out.size))
      simp only [List.drop_succ_cons, List.drop_zero]
      refine wpList_puts (want_none rfl) 31 _ _ rfl (n0 + 1 + 1) 0 q8 (sx).cells q14 31 St.zero.cells hbk 102 hsl1 (by rw [St.cells_len St.zero_good]; omega) hi_rstate St.one_cells ?_
      intro w7 hb7 hm7 hz7
      rw [put_all (by rw [St.cells_len St.zero_good]; exact hsl1)] at hb7
      have hou := q17.moves hm7 (by rw [← hN]; have := hbk.lt; have := HZ1.out.drew.lt; omega)
      have HB7 := Lib.hid hb7
      have HM7 := Lib.hid hm7
      obtain ⟨v17, hv17⟩ : ∃ v, a.eval (.tmp 17) = v := ⟨_, rfl⟩
      rw [hv17] at hou
      have HOU := Lib.hid hou
      have p8 := q8
      have p17 := hv17
      rw [Act.eval, Array.getD_eq_getD_getElem?] at p8 p17
      clear hb7 hm7 hou q14 q17
      go_wp2_with fail
      have g17 : a.tmps[17]'hs8 = v17 := by simpa [hs8] using p17
      refine bodyPost_ret (rvoted_results (s := sx) hgx HB7.out ((set_getD_far (by decide)).trans q8) ((set_getD_same (by omega)).trans g17)) rfl ?_
      exact ⟨v17, by rw [← HSX.out], HOU.out.less (by rw [← hN]; have := L1D.out.size; omega), hBl.trans (HM7.out.to_below hBl.size (fun k _ e => by omega))⟩
  | false =>
    have c1' := HS0.out.cell 1
    go_upto_region 4 with (first
      | (refine wpList_val (by rfl) (run_build_at 23 _ (by with_reducible rfl) (bts zeros) (by exact made_noneR)) ?_)
      | (refine wpList_puts (by rfl) 23 _ _ (by with_reducible rfl) (n0 + 1) 0 (by rfl) (bts zeros) (by rfl) 23 (bts b) (by exact HB0.out) 32 hzl (by rw [hbt]; omega) hi_hash bts_all ?_; intro w1 hb1 hm1 hz1'; rw [put_all (by rw [hbt, hzl])] at hb1; have HB1 := Lib.hid hb1; have HM1 := Lib.hid hm1; clear hb1 hm1))
    have HS1 : Hid (Bk w1 n0 31 (sx).cells.toArray) := Lib.hid (HM1.out.bk HS0.out (by omega))
    have HZ1 : Hid (Bk w1 (n0 + 1 + 1) 31 St.zero.cells.toArray) := Lib.hid (HM1.out.bk HZ0.out (by omega))
    have L1D : Hid (Below w.heap.size w w1.drew) := Lib.hid ((HL0.out.trans (HM1.out.to_below HL0.out.size (fun k _ e => by omega))).trans (by (first | assumption | (repeat (first | exact Below.refl _ _ | assumption | apply Below.drew | apply below_drewN | (refine Below.setCell ?_ (by (try simp) <;> omega) _) | (refine Below.alloc ?_ (by (try simp) <;> omega) _))))))
    try simp only [Bool.false_eq_true, if_false]
    clear c1 hf1 hz1 HS0 HB0 HZ0 HL0 HM1 c1'
    obtain ⟨N, hN⟩ : ∃ N, w1.drew.heap.size = N := ⟨_, rfl⟩
    have HW : Hid (∀ W, Below w1.drew.heap.size w1.drew W → Bk W n0 31 (sx).cells.toArray ∧ Bk W (n0 + 1) 23 (bts zeros).toArray ∧ Bk W (n0 + 1 + 1) 31 St.zero.cells.toArray) := Lib.hid (fun W h => ⟨HS1.out.drew.below h (HS1.out.drew.lt), HB1.out.drew.below h (HB1.out.drew.lt), HZ1.out.drew.below h (HZ1.out.drew.lt)⟩)
    have hsl1 := St.cells_len (s := sx) hgx
    have hbl1 : (bts zeros).length = 32 := by rw [bts_len, zeros_len]
    refine wp_region_each_tail 4 (votV (sx) r zeros N) (by kernel_rfl) (by kernel_rfl) votV_on ?turns ?fin
    case turns =>
      refine ⟨fun a W pre => .inl ?_, fun a W pre => .inl ?_, fun a W pre => .inl ?_, fun a W pre => .inl ?_, trivial⟩
      · have e4 : a.eval (.tmp 4) = .pointer (some ⟨n0, 0, none⟩) := pre.was 4 (by kernel_rfl) rfl
        exact does_val (want_none rfl) (run_load_seg 31 _ rfl n0 0 e4 (sx).cells (HW.out W pre.b).1.all 102 hsl1 _ Tryd.underlying31 rfl hi_rstate) rfl
      · have e1 : a.eval (.tmp 1) = .int .i64 r := pre.was 1 (by kernel_rfl) rfl
        have q1 := e1
        rw [Act.eval, Array.getD_eq_getD_getElem?] at q1
        exact does_val (want_none rfl) (by go_simp) rfl
      · have e6 : a.eval (.tmp 6) = .pointer (some ⟨n0 + 1, 0, none⟩) := pre.was 6 (by kernel_rfl) rfl
        exact does_val (want_none rfl) (run_load_seg 23 _ rfl (n0 + 1) 0 e6 (bts zeros) (HW.out W pre.b).2.1.all 32 hbl1 _ hu_hash rfl hi_hash) rfl
      · have e15 : a.eval (.tmp 15) = .int .i64 r := pre.val 1 15 (by kernel_rfl) (by kernel_rfl)
        have q15 := e15
        rw [Act.eval, Array.getD_eq_getD_getElem?] at q15
        have e16 : a.eval (.tmp 16) = .agg (bts zeros).toArray := pre.val 2 16 (by kernel_rfl) (by kernel_rfl)
        have q16 := e16
        rw [Act.eval, Array.getD_eq_getD_getElem?] at q16
        refine does_call_ex (want_none rfl) (by go_simp) ((rone_any 2 r 0 zeros zeros_len W).mono fun e W' hx => ?_)
        obtain ⟨u, h1, h2, h3⟩ := hx
        exact ⟨u, h1, h2.less (hN ▸ pre.b.size), h3⟩
    case fin =>
      intro a W hb hsz2 hd hv ho
      have q14 : a.eval (.tmp 14) = .agg (sx).cells.toArray := hv 0 14 (by decide) (by kernel_rfl)
      have q17 : ROutAt W N (a.eval (.tmp 17)) (some ⟨2, r, zeros, 0⟩) := hv 3 17 (by decide) (by kernel_rfl)
      have q8 : a.eval (.tmp 8) = .pointer (some ⟨n0 + 1 + 1, 0, none⟩) := ho 8 (no_dst (by kernel_rfl))
      have hs8 : 17 < a.tmps.size := by rw [hsz2]; first | (simp; done) | (show 17 < 18; decide)
      have hbk := (HW.out W hb).2.2
      have hBl : Below w.heap.size w W := (L1D.out.trans (hb.mono L1D.out.size))
      simp only [List.drop_succ_cons, List.drop_zero]
      refine wpList_puts (want_none rfl) 31 _ _ rfl (n0 + 1 + 1) 0 q8 (sx).cells q14 31 St.zero.cells hbk 102 hsl1 (by rw [St.cells_len St.zero_good]; omega) hi_rstate St.one_cells ?_
      intro w7 hb7 hm7 hz7
      rw [put_all (by rw [St.cells_len St.zero_good]; exact hsl1)] at hb7
      have hou := q17.moves hm7 (by rw [← hN]; have := hbk.lt; have := HZ1.out.drew.lt; omega)
      have HB7 := Lib.hid hb7
      have HM7 := Lib.hid hm7
      obtain ⟨v17, hv17⟩ : ∃ v, a.eval (.tmp 17) = v := ⟨_, rfl⟩
      rw [hv17] at hou
      have HOU := Lib.hid hou
      have p8 := q8
      have p17 := hv17
      rw [Act.eval, Array.getD_eq_getD_getElem?] at p8 p17
      clear hb7 hm7 hou q14 q17
      go_wp2_with fail
      have g17 : a.tmps[17]'hs8 = v17 := by simpa [hs8] using p17
      refine bodyPost_ret (rvoted_results (s := sx) hgx HB7.out ((set_getD_far (by decide)).trans q8) ((set_getD_same (by omega)).trans g17)) rfl ?_
      exact ⟨v17, by rw [← HSX.out], HOU.out.less (by rw [← hN]; have := L1D.out.size; omega), hBl.trans (HM7.out.to_below hBl.size (fun k _ e => by omega))⟩
end Go.Proofs.YtlhnhdkbfkbafaaDoor

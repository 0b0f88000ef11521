/- What this text proves: the contract of the law WireReads. The conditions are how the arguments lie in memory. -/
import Derived.Test.YtclnpglnomfjkaaDoorWireBack
import Derived.Test.YtclnpglnomfjkaaDoorWireRr
namespace Go.Proofs.YtclnpglnomfjkaaDoor
open Go.RowKit Go.Shelf
set_option linter.unusedVariables false
set_option linter.unusedSimpArgs false

theorem own_bk {w : World} {base n : Nat} {e : TypeId} {v : Value} {xs : List Value} (h : w.ownsRow base e 1 v n xs) (hn : 0 < n) : ∃ g cap cur, v = .slice (some ⟨g, 0, none⟩) n cap ∧ base ≤ g ∧ n ≤ cap ∧ cap ≤ maxLen ∧ Bk w g e cur ∧ ∀ (j : Nat) (u : Value), xs[j]? = some u → cur[j]? = some u := by
  rcases h.2 with ⟨e, h0⟩ | ⟨g, cap, cur, rfl, hb, hh, hnc, hc, _⟩
  · omega
  · have hk : Bk w g e cur := hh
    refine ⟨g, cap, cur, rfl, hb, hnc, hc, hk, fun j u hu => ?_⟩
    have := h.cells (g := g) rfl j u hu
    rw [← hk.cell j]
    have e : (⟨g, 0, none⟩ : Addr).add j = ⟨g, j, none⟩ := by unfold Addr.add; split <;> simp_all
    rwa [e] at this
theorem bk_sl {w : World} {g n : Nat} {cur : Array Value} {l : List UInt8} (hn : l.length = n) (h : Bk w g 5 cur) (hc : ∀ (j : Nat) (u : Value), (bts l)[j]? = some u → cur[j]? = some u) : Sl w w.heap.size 1 (some ⟨g, 0, none⟩) n (bts l) := by
  refine ⟨by rw [bts_len, hn, Nat.mul_one], fun _ => ⟨g, 0, rfl, h.lt, fun j u hu => ?_⟩⟩
  rw [Nat.zero_add, h.cell j]
  exact hc j u hu
/-- What is known of the two readers and of the own row. -/
structure RI (w W : World) (gO g gm : Nat) (cur : Array Value) (s t : Option (List UInt8)) : Prop where
  bel : Below w.heap.size w W
  one : RdS W g s
  two : RfS W w.heap.size gm t
  own : Bk W gO 5 cur
  ge : w.heap.size ≤ gO
  lt : gO < g
  lt2 : g < gm
theorem ref_no8 {w : World} {B g : Nat} {s : Option (List UInt8)} (h : RfS w B g s) : ∀ cur, w.heap[g]? ≠ some (.cells cur 5 (0, 0)) := by
  cases s with
  | some l => obtain ⟨A, c, hk, _⟩ := h; exact hk.no8 (by decide)
  | none => obtain ⟨l, A, c, hk, _⟩ := h; exact hk.no8 (by decide)
theorem RI.first {w W W' : World} {gO g gm : Nat} {cur : Array Value} {s t s' : Option (List UInt8)} {v : Value} {e : Ending} (h : RI w W gO g gm cur s t) (hm : MP W g (v, s') e W') : e = .returned v ∧ RI w W' gO g gm cur s' t := by
  have := h.ge; have := h.lt; have := h.lt2
  exact ⟨hm.1, h.bel.grown hm.2.2 h.bel.size (fun k e => by cases e; omega), hm.2.1, h.two.move hm.2.2 (by simp; omega) (by intro b hb; simp; omega), h.own.grown hm.2.2 (by simp; omega), h.ge, h.lt, h.lt2⟩
theorem RI.second {w W W' : World} {gO g gm : Nat} {cur : Array Value} {s t t' : Option (List UInt8)} {v : Value} {e : Ending} (h : RI w W gO g gm cur s t) (hm : MR W w.heap.size gm (v, t') e W') : e = .returned v ∧ RI w W' gO g gm cur s t' := by
  have := h.ge; have := h.lt; have := h.lt2
  exact ⟨hm.1, h.bel.grown hm.2.2 h.bel.size (fun k e => by cases e; omega), h.one.move hm.2.2 (by omega) (ref_no8 h.two), hm.2.1, h.own.grown hm.2.2 (by simp; omega), h.ge, h.lt, h.lt2⟩
theorem RI.old {w W W' : World} {gO g gm : Nat} {cur : Array Value} {s t : Option (List UInt8)} (h : RI w W gO g gm cur s t) (hb : Below W.heap.size W W') : RI w W' gO g gm cur s t :=
  ⟨h.bel.trans (hb.mono h.bel.size), h.one.old hb, h.two.old hb, h.own.below hb h.own.lt, h.ge, h.lt, h.lt2⟩
theorem RI.of1 {w W : World} {gO g gm : Nat} {cur : Array Value} {s t s' : Option (List UInt8)} {v : Value} {f : FuncId} {args : Array Value} (h : RI w W gO g gm cur s t) (hc : Calls Tryd.prog f args W (MP W g (v, s'))) : Calls Tryd.prog f args W fun e W' => e = .returned v ∧ RI w W' gO g gm cur s' t := hc.mono fun _ _ hm => h.first hm
theorem RI.of2 {w W : World} {gO g gm : Nat} {cur : Array Value} {s t t' : Option (List UInt8)} {v : Value} {f : FuncId} {args : Array Value} (h : RI w W gO g gm cur s t) (hc : Calls Tryd.prog f args W (MR W w.heap.size gm (v, t'))) : Calls Tryd.prog f args W fun e W' => e = .returned v ∧ RI w W' gO g gm cur s t' := hc.mono fun _ _ hm => h.second hm
theorem RI.drew {w W : World} {gO g gm : Nat} {cur : Array Value} {s t : Option (List UInt8)} (h : RI w W gO g gm cur s t) : RI w W.drew gO g gm cur s t := h.old (by (first | assumption | (repeat (first | exact Below.refl _ _ | assumption | apply Below.drew | apply below_drewN | (refine Below.setCell ?_ (by (try simp) <;> omega) _) | (refine Below.alloc ?_ (by (try simp) <;> omega) _)))))
theorem RI.end1 {w W : World} {gO g gm : Nat} {cur : Array Value} {s t : Option (List UInt8)} (h : RI w W gO g gm cur s t) : Calls Tryd.prog 31 #[Pt g] W fun e W' => e = .returned (.int .i64 (endF s)) ∧ RI w W' gO g gm cur s t := (mEnd_any g s W h.one).mono fun _ _ hm => ⟨hm.1, h.old hm.2⟩
theorem RI.end2 {w W : World} {gO g gm : Nat} {cur : Array Value} {s t : Option (List UInt8)} (h : RI w W gO g gm cur s t) : Calls Tryd.prog 32 #[Pt gm] W fun e W' => e = .returned (.int .i64 (endF t)) ∧ RI w W' gO g gm cur s t := (rEnd_any w.heap.size gm t W h.two).mono fun _ _ hm => ⟨hm.1, h.old hm.2⟩
/-- The same answer, of both. -/
theorem num_val (s : Option (List UInt8)) : ∃ x : Int, numV (rstep wordR (.int .u64 0) s).1 = .int .i64 x := by
  obtain ⟨x, hx, _⟩ := rstep_word s
  exact ⟨_, by rw [hx]; rfl⟩
theorem word_val (s : Option (List UInt8)) : ∃ x : Int, (rstep wordR (.int .u64 0) s).1 = .int .u64 x := by
  obtain ⟨x, hx, _⟩ := rstep_word s
  exact ⟨x, hx⟩
theorem text_val (s : Option (List UInt8)) : ∃ x : ByteArray, (rstep textR (.string ⟨#[]⟩) s).1 = .string x := by
  cases s with
  | none => exact ⟨_, rfl⟩
  | some l =>
    cases h : textR l with
    | none => exact ⟨⟨#[]⟩, by simp [rstep, h]⟩
    | some r => obtain ⟨x, hx⟩ := t_some (v := r.1) (l' := r.2) h; exact ⟨x, by simp [rstep, h, hx]⟩
theorem count_val (m : Int) (s : Option (List UInt8)) : ∃ x : Int, (rstep (countR m) (.int .i64 0) s).1 = .int .i64 x := by
  cases s with
  | none => exact ⟨_, rfl⟩
  | some l =>
    cases h : countR m l with
    | none => exact ⟨0, by simp [rstep, h]⟩
    | some r => obtain ⟨x, hx⟩ := c_some (v := r.1) (l' := r.2) h; exact ⟨x, by simp [rstep, h, hx]⟩
theorem hash_val (s : Option (List UInt8)) : ∃ x : List UInt8, (rstep hashR (.agg (bts zB).toArray) s).1 = .agg (bts x).toArray ∧ x.length = 32 := by
  cases s with
  | none => exact ⟨zB, rfl, zB_len⟩
  | some l =>
    simp only [rstep, hashR]
    by_cases h : 32 ≤ l.length
    · rw [if_pos h]; exact ⟨l.take 32, rfl, by rw [List.length_take]; omega⟩
    · rw [if_neg h]; exact ⟨zB, rfl, zB_len⟩
theorem one_sl77 (w : World) : Sl (w.alloc (.cells #[.int .u8 77] 5)) (w.alloc (.cells #[.int .u8 77] 5)).heap.size 1 (some ⟨w.heap.size, 0, none⟩) 1 (bts [77]) := one_sl8 w 77
theorem bool_val {P : Program} {o : Oper} {a : Act} {w w' : World} {b c : Bool} (h : (execOp a.eval o).run P w = .ok (.value (.bool b)) w') (e : b = c) : (execOp a.eval o).run P w = .ok (.value (.bool c)) w' := e ▸ h
theorem reads_long (A A' : Option Addr) (n n' c c' : Nat) (w : World) (h : 20000 < n) :
    Calls Tryd.prog 5 #[.slice A n c, .slice A' n' c'] w fun e w' => e = .returned (.bool true) ∧ Below w.heap.size w w' := by
  have e1 : decide (20000 < (n : Int)) = true := by simp; omega
  clear h
  go_enter Tryd.func5, Tryd.ntmps5
  go_wp2_with fail
  refine (alive_any _).mono ?_
  rintro e w1 ⟨rfl, hb1⟩
  go_wp2_with fail
  go_ret
  exact ⟨rfl, hb1⟩

set_option maxRecDepth 100000 in
set_option maxHeartbeats 16000000 in
theorem reads_in (A A' : Option Addr) (lb : List UInt8) (n : Nat) (hn : lb.length = n) (l : List Fd) (c c' : Nat) (w : World) (hb : n ≤ 20000) (hnc : n ≤ c) (hc0 : c ≤ maxLen) (hA : Sl w w.heap.size 1 A n (bts lb)) (hAz : A = none → c = 0) (hl : l.length ≤ c') (hcm : c' ≤ maxLen) (hA' : Sl w w.heap.size 36 A' l.length (l.flatMap Fd.cells)) (hf : ∀ i ∈ l, i.good) :
    Calls Tryd.prog 5 #[.slice A n c, .slice A' l.length c'] w fun e w' => e = .returned (.bool true) ∧ Below w.heap.size w w' := by
  have e1 : decide (20000 < (n : Int)) = false := by simp; omega
  obtain ⟨i0, hi0, hz0, hz1, hz2⟩ := info_parts wu8_info
  have HS := Lib.hid hA'
  have HF := Lib.hid hf
  have HN := Lib.hid hn
  have HA := Lib.hid hA
  have HAZ := Lib.hid hAz
  have HC0 := Lib.hid hc0
  have HNC := Lib.hid hnc
  unfold maxLen at hcm
  clear hA hA' hf hn hAz hc0
  go_enter Tryd.func5, Tryd.ntmps5
  go_upto_region 4 with (first
    | (refine wpList_append_sl (w.alloc (.cells #[] 5)) (by rfl) _ _ 26 (by rfl) w.heap.size 5 i0 _ 1 1 Tryd.underlying26 hi0 hz0 hz1 hz2 rfl (by omega) (.slice (some ⟨w.heap.size, 0, none⟩) 0 0) 0 [] (by rfl) (own_zero w) A n c (bts lb) (by rfl) ((HA.out.below (alloc_bel8 w _ _)).more (alloc_bel8 w _ _).size) bts_one (by unfold maxLen; omega) (by omega) (by simp) ?_; intro v10 w10 ho_ hg_ hv_; have O10 : Hid (w10.ownsRow w.heap.size 5 1 v10 n (bts lb)) := Lib.hid (by rw [Nat.zero_add, List.nil_append] at ho_; exact ho_); have L10 : Hid (Below w.heap.size w w10) := Lib.hid ((alloc_bel8 w _ _).grown hg_ (by simp) (fun k hk => (own_cells (own_zero w) hk).1)); clear ho_ hg_ hv_)
    | (refine wpList_append_sl (w10.alloc (.cells #[.int .u8 77] 5)) (by rfl) _ _ 26 (by rfl) w.heap.size 5 i0 _ 1 1 Tryd.underlying26 hi0 hz0 hz1 hz2 rfl (by omega) v10 n (bts lb) (by rfl) (Own8.row_old O10.out (alloc_bel8 w10 _ _)) (some ⟨w10.heap.size, 0, none⟩) 1 1 (bts [77]) (by rfl) (one_sl77 w10) bts_one (by unfold maxLen; omega) (by omega) (by have := L10.out.size; simp; omega) ?_; intro v28 w28 ho_ hg_ hv_; have O28 : Hid (w28.ownsRow w.heap.size 5 1 v28 (n + 1) (bts (lb ++ [77]))) := Lib.hid (by rw [bts_app]; exact ho_); have L28 : Hid (Below w.heap.size w w28) := Lib.hid ((L10.out.trans ((alloc_bel8 w10 _ _).mono L10.out.size)).grown hg_ (Nat.le_trans L10.out.size (alloc_bel8 w10 _ _).size) (fun k hk => (own_cells O10.out hk).1)); clear ho_ hg_ hv_; obtain ⟨gO, cap, cur, rfl, hgO, hcap, hcapm, hbO, hcO⟩ := own_bk O28.out (by omega); have HGO := Lib.hid hgO; have HBO := Lib.hid hbO; have HCO := Lib.hid hcO; have HCM := Lib.hid hcapm; unfold maxLen at hcapm; clear hgO hbO hcO))
  have HOSL : Hid (∀ W, Bk W gO 5 cur → Sl W W.heap.size 1 (some ⟨gO, 0, none⟩) n (bts lb)) := Lib.hid (fun W h => bk_sl HN.out h (fun j u hu => HCO.out j u (by
    have hj : j < (bts lb).length := (List.getElem?_eq_some_iff.1 hu).1
    rw [bts_app, List.getElem?_append_left hj]
    exact hu)))
  have H77 : Hid (cur[n]? = some (.int .u8 77)) := Lib.hid (HCO.out n _ (by
    have hl : (bts lb).length = n := by rw [bts_len, HN.out]
    rw [bts_app, List.getElem?_append_right (by omega), hl, Nat.sub_self]
    rfl))
  have HR := Lib.hid (newReader_any (some ⟨gO, 0, none⟩) n cap lb HN.out w28 (by omega) (HOSL.out _ HBO.out))
  have HA28 := Lib.hid ((HA.out.below L28.out))
  clear O28 O10 L10
  go_wp2_with fail
  with_reducible refine HR.out.mono ?_
  rintro e w4 ⟨g, rfl, hg, hr, hb4⟩
  have HI4 := Lib.hid (show RI w (w4.alloc (.cells #[.slice A n c, .bool false] 48)) gO g w4.heap.size cur (some lb) (some lb) from by
    have hbx := alloc_bel8 w4 #[.slice A n c, .bool false] 48
    have h28 := L28.out.size
    have hg4 := hr.lt
    have hl4 := hb4.size
    have hgo := HBO.out.lt
    refine ⟨(L28.out.trans (hb4.mono h28)).trans (hbx.mono (by omega)), hr.old hbx, ⟨A, c, ?_, by rw [HN.out]; exact HNC.out, HC0.out, ?_, HAZ.out, by omega⟩, (HBO.out.below hb4 hgo).alloc _, HGO.out, by omega, by omega⟩
    · rw [HN.out]; exact Bk.new w4 _ _
    · rw [HN.out]; exact (HA28.out.below (hb4.mono h28)).below (hbx.mono (by omega)))
  clear hg hr hb4 HR HBO L28 HA28
  go_upto_region 6 with (refine wpList_val (by rfl) (run_build_at 48 _ (by with_reducible rfl) [.slice A n c, .bool false] (by kernel_rfl)) ?_)
  go_wp2_with fail
  with_reducible refine (alive_any _).mono ?_ 
  rintro e w6 ⟨rfl, hb6⟩
  have HI := Lib.hid (HI4.out.old hb6)
  obtain ⟨gm, hgm⟩ : ∃ gm, w4.heap.size = gm := ⟨_, rfl⟩
  rw [hgm] at HI ⊢
  clear hb6 HI4 hgm e1
  obtain ⟨m, hm⟩ : ∃ m, min 40 l.length = m := ⟨_, rfl⟩
  go_wp2_with fail
  go_loopw [8] (fun i wr => ∃ (k : Nat) (s : Option (List UInt8)), k ≤ m ∧ i = .int .i64 k ∧ RI w wr gO g gm cur s s) (fun i _ => m - (intOf i).toNat)
  case atStart => exact ⟨0, _, by omega, rfl, HI.out⟩
  case round =>
    obtain ⟨k, s, hk1, rfl, hi⟩ := hrel
    have H := Lib.hid hi
    clear hi HI
    by_cases hlt : k < m
    · have e1 : (k : Int) < (l.length : Int) := by omega
      have e2 : (k : Int) < 40 := by omega
      have hk40 : k < 40 := by omega
      obtain ⟨f, hfk⟩ : ∃ f, l[k]? = some f := ⟨_, List.getElem?_eq_getElem (by omega)⟩
      obtain ⟨ba, oa, rfl, hfd⟩ := fd_all HS.out HF.out hfk
      have HFD := Lib.hid hfd
      have hck := (HFD.out wr H.out.bel).kind
      clear hfk hfd
      by_cases hk1 : f.kind = 1
      · have hk : f.kind = 1 := hk1
        have k1 : (f.kind == 1) = true := by simp; omega
        obtain ⟨x, hx⟩ := num_val s
        obtain ⟨s9, hs9⟩ : ∃ s9, (rstep wordR (.int .u64 0) s).2 = s9 := ⟨_, rfl⟩
        have HC1 := Lib.hid (mNumber_any g s wr H.out.one)
        have hcc := fun W => rNumber_any w.heap.size gm s W
        rw [hs9, hx] at HC1
        simp only [hs9, hx] at hcc
        have HCC := Lib.hid hcc
        have HC := Lib.hid (H.out.of1 HC1.out)
        clear hcc HC1
        go_wp2_with fail
        with_reducible refine HC.out.mono ?_
        rintro e w8 ⟨rfl, h8⟩
        have HC2 := Lib.hid (h8.of2 (HCC.out w8 h8.two))
        clear h8 HC HCC
        go_wp2_with fail
        with_reducible refine HC2.out.mono ?_
        rintro e w9 ⟨rfl, h9⟩
        have H9 := Lib.hid h9
        clear h9 HC2 H
        have HE1 := Lib.hid H9.out.end1
        obtain ⟨ef, hef⟩ : ∃ ef, endF s9 = ef := ⟨_, rfl⟩
        rw [hef] at HE1
        go_wp2_with fail
        with_reducible refine HE1.out.mono ?_
        rintro e wa ⟨rfl, ha⟩
        have HE2 := Lib.hid ha.end2
        rw [hef] at HE2
        clear ha HE1 H9 hef
        go_wp2_with fail
        with_reducible refine HE2.out.mono ?_
        rintro e wb ⟨rfl, hbb⟩
        have Hb := Lib.hid hbb
        clear hbb HE2
        go_wp2_with fail
        go_roundw
        case rel => exact ⟨k + 1, s9, by omega, by go_num, Hb.out⟩
        case measure => simp [intOf]; try omega
      by_cases hk2 : f.kind = 2
      · have hk : f.kind = 2 := hk2
        have k1 : (f.kind == 1) = false := by simp; omega
        have k2 : (f.kind == 2) = true := by simp; omega
        obtain ⟨x, hx⟩ := word_val s
        obtain ⟨s9, hs9⟩ : ∃ s9, (rstep wordR (.int .u64 0) s).2 = s9 := ⟨_, rfl⟩
        have HC1 := Lib.hid (mWord_any g s wr H.out.one)
        have hcc := fun W => rWord_any w.heap.size gm s W
        obtain ⟨r9, hr9⟩ : ∃ r9, (rstep wordR (.int .u64 0) s) = r9 := ⟨_, rfl⟩
        rw [hr9] at HC1 hx hs9
        simp only [hr9] at hcc
        obtain ⟨r1, r2⟩ := r9
        simp only at hx hs9
        subst hx hs9
        have HCC := Lib.hid hcc
        have HC := Lib.hid (H.out.of1 HC1.out)
        clear hcc HC1
        go_wp2_with fail
        with_reducible refine HC.out.mono ?_
        rintro e w8 ⟨rfl, h8⟩
        have HC2 := Lib.hid (h8.of2 (HCC.out w8 h8.two))
        clear h8 HC HCC
        go_wp2_with fail
        with_reducible refine HC2.out.mono ?_
        rintro e w9 ⟨rfl, h9⟩
        have H9 := Lib.hid h9
        clear h9 HC2 H
        have HE1 := Lib.hid H9.out.end1
        obtain ⟨ef, hef⟩ : ∃ ef, endF r2 = ef := ⟨_, rfl⟩
        rw [hef] at HE1
        go_wp2_with fail
        with_reducible refine HE1.out.mono ?_
        rintro e wa ⟨rfl, ha⟩
        have HE2 := Lib.hid ha.end2
        rw [hef] at HE2
        clear ha HE1 H9 hef
        go_wp2_with fail
        with_reducible refine HE2.out.mono ?_
        rintro e wb ⟨rfl, hbb⟩
        have Hb := Lib.hid hbb
        clear hbb HE2
        go_wp2_with fail
        go_roundw
        case rel => exact ⟨k + 1, r2, by omega, by go_num, Hb.out⟩
        case measure => simp [intOf]; try omega
      by_cases hk3 : f.kind = 3
      · have hk : f.kind = 3 := hk3
        have k1 : (f.kind == 1) = false := by simp; omega
        have k2 : (f.kind == 2) = false := by simp; omega
        have k3 : (f.kind == 3) = true := by simp; omega
        obtain ⟨x, hx, hxl⟩ := hash_val s
        obtain ⟨s9, hs9⟩ : ∃ s9, (rstep hashR (.agg (bts zB).toArray) s).2 = s9 := ⟨_, rfl⟩
        have HC1 := Lib.hid (mHash_any g s wr H.out.one)
        have hcc := fun W => rHash_any w.heap.size gm s W
        obtain ⟨r9, hr9⟩ : ∃ r9, (rstep hashR (.agg (bts zB).toArray) s) = r9 := ⟨_, rfl⟩
        rw [hr9] at HC1 hx hs9
        simp only [hr9] at hcc
        obtain ⟨r1, r2⟩ := r9
        simp only at hx hs9
        subst hx hs9
        have HCC := Lib.hid hcc
        have HC := Lib.hid (H.out.of1 HC1.out)
        clear hcc HC1
        go_wp2_with fail
        with_reducible refine HC.out.mono ?_
        rintro e w8 ⟨rfl, h8⟩
        have HC2 := Lib.hid (h8.of2 (HCC.out w8 h8.two))
        clear h8 HC HCC
        go_wp2_with fail
        with_reducible refine HC2.out.mono ?_
        rintro e w9 ⟨rfl, h9⟩
        have H9 := Lib.hid h9
        clear h9 HC2 H
        have HE1 := Lib.hid H9.out.end1
        obtain ⟨ef, hef⟩ : ∃ ef, endF r2 = ef := ⟨_, rfl⟩
        rw [hef] at HE1
        go_wp2_with (refine wpList_val (by rfl) (bool_val (run_bytes_neq 29 5 _ _ _ (by with_reducible rfl) 32 Tryd.underlying29 Tryd.underlying5 hsz8 hm_hash x x (by rfl) (by rfl) hxl hxl) (show (!(x == x)) = false by simp)) ?_)
        with_reducible refine HE1.out.mono ?_
        rintro e wa ⟨rfl, ha⟩
        have HE2 := Lib.hid ha.end2
        rw [hef] at HE2
        clear ha HE1 H9 hef
        go_wp2_with fail
        with_reducible refine HE2.out.mono ?_
        rintro e wb ⟨rfl, hbb⟩
        have Hb := Lib.hid hbb
        clear hbb HE2
        go_wp2_with fail
        go_roundw
        case rel => exact ⟨k + 1, r2, by omega, by go_num, Hb.out⟩
        case measure => simp [intOf]; try omega
      by_cases hk4 : f.kind = 4
      · have hk : f.kind = 4 := hk4
        have k1 : (f.kind == 1) = false := by simp; omega
        have k2 : (f.kind == 2) = false := by simp; omega
        have k3 : (f.kind == 3) = false := by simp; omega
        have k4 : (f.kind == 4) = true := by simp; omega
        obtain ⟨x, hx⟩ := text_val s
        obtain ⟨s9, hs9⟩ : ∃ s9, (rstep textR (.string ⟨#[]⟩) s).2 = s9 := ⟨_, rfl⟩
        have HC1 := Lib.hid (mText_any g s wr H.out.one)
        have hcc := fun W => rText_any w.heap.size gm s W
        obtain ⟨r9, hr9⟩ : ∃ r9, (rstep textR (.string ⟨#[]⟩) s) = r9 := ⟨_, rfl⟩
        rw [hr9] at HC1 hx hs9
        simp only [hr9] at hcc
        obtain ⟨r1, r2⟩ := r9
        simp only at hx hs9
        subst hx hs9
        have HCC := Lib.hid hcc
        have HC := Lib.hid (H.out.of1 HC1.out)
        clear hcc HC1
        go_wp2_with fail
        with_reducible refine HC.out.mono ?_
        rintro e w8 ⟨rfl, h8⟩
        have HC2 := Lib.hid (h8.of2 (HCC.out w8 h8.two))
        clear h8 HC HCC
        go_wp2_with fail
        with_reducible refine HC2.out.mono ?_
        rintro e w9 ⟨rfl, h9⟩
        have H9 := Lib.hid h9
        clear h9 HC2 H
        have HE1 := Lib.hid H9.out.end1
        obtain ⟨ef, hef⟩ : ∃ ef, endF r2 = ef := ⟨_, rfl⟩
        rw [hef] at HE1
        go_wp2_with fail
        with_reducible refine HE1.out.mono ?_
        rintro e wa ⟨rfl, ha⟩
        have HE2 := Lib.hid ha.end2
        rw [hef] at HE2
        clear ha HE1 H9 hef
        go_wp2_with fail
        with_reducible refine HE2.out.mono ?_
        rintro e wb ⟨rfl, hbb⟩
        have Hb := Lib.hid hbb
        clear hbb HE2
        go_wp2_with fail
        go_roundw
        case rel => exact ⟨k + 1, r2, by omega, by go_num, Hb.out⟩
        case measure => simp [intOf]; try omega
      by_cases hk5 : f.kind = 5
      · have hk : f.kind = 5 := hk5
        have k1 : (f.kind == 1) = false := by simp; omega
        have k2 : (f.kind == 2) = false := by simp; omega
        have k3 : (f.kind == 3) = false := by simp; omega
        have k4 : (f.kind == 4) = false := by simp; omega
        have k5 : (f.kind == 5) = true := by simp; omega
        have hgn := (HFD.out wr.drew H.out.drew.bel).n
        obtain ⟨x, hx⟩ := count_val f.n s
        obtain ⟨r9, hr9⟩ : ∃ r9, (rstep (countR f.n) (.int .i64 0) s) = r9 := ⟨_, rfl⟩
        have HC1 := Lib.hid (mCount_any g f.n s wr.drew H.out.drew.one)
        have hcc := fun W => rCount_any w.heap.size gm f.n s W
        rw [hr9] at HC1 hx
        simp only [hr9] at hcc
        obtain ⟨r1, r2⟩ := r9
        simp only at hx
        subst hx
        have HCC := Lib.hid (fun W (h : RI w W gO g gm cur r2 s) => h.of2 (hcc W h.two))
        have HC := Lib.hid (H.out.drew.of1 HC1.out)
        have hld := hgn
        clear hcc HC1 hgn hr9
        go_upto_region 25 with fail
        go_region_held3 (fun w' => w'.cell? ⟨ba, oa + k * 36 + 1, none⟩ = some (.int .i64 f.n)) (first | exact hld | exact HK3.out | exact HK4.out | go_keep)
          (first
            | (go_at_call 29; with_reducible refine HC.out.mono ?_; rintro e w8 ⟨rfl, h8⟩; have HK3 := Lib.hid (HFD.out w8 h8.bel).n; have H8 := Lib.hid h8; clear h8)
            | (go_at_call 30; with_reducible refine (HCC.out w8 H8.out).mono ?_; rintro e w9 ⟨rfl, h9⟩; have HK4 := Lib.hid (HFD.out w9 h9.bel).n; have H9 := Lib.hid h9; clear h9))
        have HE1 := Lib.hid H9.out.end1
        obtain ⟨ef, hef⟩ : ∃ ef, endF r2 = ef := ⟨_, rfl⟩
        rw [hef] at HE1
        go_wp2_with fail
        with_reducible refine HE1.out.mono ?_
        rintro e wa ⟨rfl, ha⟩
        have HE2 := Lib.hid ha.end2
        rw [hef] at HE2
        clear ha HE1 H9 hef
        go_wp2_with fail
        with_reducible refine HE2.out.mono ?_
        rintro e wb ⟨rfl, hbb⟩
        have Hb := Lib.hid hbb
        clear hbb HE2
        go_wp2_with fail
        go_roundw
        case rel => exact ⟨k + 1, r2, by omega, by go_num, Hb.out⟩
        case measure => simp [intOf]; try omega
      · have H9 := H
        have k1 : (f.kind == 1) = false := by simp; omega
        have k2 : (f.kind == 2) = false := by simp; omega
        have k3 : (f.kind == 3) = false := by simp; omega
        have k4 : (f.kind == 4) = false := by simp; omega
        have k5 : (f.kind == 5) = false := by simp; omega
        have HE1 := Lib.hid H9.out.end1
        obtain ⟨ef, hef⟩ : ∃ ef, endF s = ef := ⟨_, rfl⟩
        rw [hef] at HE1
        go_wp2_with fail
        with_reducible refine HE1.out.mono ?_
        rintro e wa ⟨rfl, ha⟩
        have HE2 := Lib.hid ha.end2
        rw [hef] at HE2
        clear ha HE1 H9 hef
        go_wp2_with fail
        with_reducible refine HE2.out.mono ?_
        rintro e wb ⟨rfl, hbb⟩
        have Hb := Lib.hid hbb
        clear hbb HE2
        go_wp2_with fail
        go_roundw
        case rel => exact ⟨k + 1, s, by omega, by go_num, Hb.out⟩
        case measure => simp [intOf]; try omega
    · obtain rfl : m = k := by omega
      rcases Nat.lt_or_ge m l.length with h1 | h1
      · have e2 : decide ((m : Int) < (l.length : Int)) = true := by simp; omega
        have e3 : decide ((m : Int) < 40) = false := by simp; omega
        have hsame := same02_any (some ⟨gO, 0, none⟩) A lb lb cap c wr (by rw [HN.out]; exact HOSL.out wr H.out.own) (by rw [HN.out]; exact (HA.out.below H.out.bel).more H.out.bel.size)
        rw [HN.out] at hsame
        simp only [decide_true] at hsame
        have HSM := Lib.hid hsame
        have HOC := Lib.hid HCM.out
        clear hsame
        go_wp2_with fail
        with_reducible refine HSM.out.mono ?_
        rintro e wa ⟨rfl, hba⟩
        have HA9 := Lib.hid (H.out.old hba)
        have h77 : wa.cell? ⟨gO, n, none⟩ = some (.int .u8 77) := by rw [HA9.out.own.cell n]; exact H77.out
        have HE1 := Lib.hid HA9.out.end1
        obtain ⟨ef, hef⟩ : ∃ ef, endF s = ef := ⟨_, rfl⟩
        rw [hef] at HE1
        clear hba H HSM
        go_wp2_with fail
        with_reducible refine HE1.out.mono ?_
        rintro e wb ⟨rfl, hbb⟩
        have HE2 := Lib.hid hbb.end2
        rw [hef] at HE2
        clear hbb HE1 h77 hef
        go_wp2_with fail
        with_reducible refine HE2.out.mono ?_
        rintro e wc ⟨rfl, hcc⟩
        have HZ := Lib.hid hcc.bel
        clear hcc HE2
        go_wp2_with fail
        go_ret
        exact ⟨rfl, HZ.out⟩
      · have e2 : decide ((m : Int) < (l.length : Int)) = false := by simp; omega
        have hsame := same02_any (some ⟨gO, 0, none⟩) A lb lb cap c wr (by rw [HN.out]; exact HOSL.out wr H.out.own) (by rw [HN.out]; exact (HA.out.below H.out.bel).more H.out.bel.size)
        rw [HN.out] at hsame
        simp only [decide_true] at hsame
        have HSM := Lib.hid hsame
        have HOC := Lib.hid HCM.out
        clear hsame
        go_wp2_with fail
        with_reducible refine HSM.out.mono ?_
        rintro e wa ⟨rfl, hba⟩
        have HA9 := Lib.hid (H.out.old hba)
        have h77 : wa.cell? ⟨gO, n, none⟩ = some (.int .u8 77) := by rw [HA9.out.own.cell n]; exact H77.out
        have HE1 := Lib.hid HA9.out.end1
        obtain ⟨ef, hef⟩ : ∃ ef, endF s = ef := ⟨_, rfl⟩
        rw [hef] at HE1
        clear hba H HSM
        go_wp2_with fail
        with_reducible refine HE1.out.mono ?_
        rintro e wb ⟨rfl, hbb⟩
        have HE2 := Lib.hid hbb.end2
        rw [hef] at HE2
        clear hbb HE1 h77 hef
        go_wp2_with fail
        with_reducible refine HE2.out.mono ?_
        rintro e wc ⟨rfl, hcc⟩
        have HZ := Lib.hid hcc.bel
        clear hcc HE2
        go_wp2_with fail
        go_ret
        exact ⟨rfl, HZ.out⟩

theorem reads_any (A : Option Addr) (lb : List UInt8) (c : Nat) (w : World) (hlc : lb.length ≤ c) (hc : c ≤ maxLen) (hA : Sl w w.heap.size 1 A lb.length (bts lb)) (hAz : A = none → c = 0) (A' : Option Addr) (l : List Fd) (c' : Nat) (hl : l.length ≤ c') (hcm : c' ≤ maxLen) (hA' : Sl w w.heap.size 36 A' l.length (l.flatMap Fd.cells)) (hf : ∀ i ∈ l, i.good) :
    Calls Tryd.prog 5 #[.slice A lb.length c, .slice A' l.length c'] w fun e w' => e = .returned (.bool true) ∧ Below w.heap.size w w' := by
  by_cases h : 20000 < lb.length
  · exact reads_long A A' _ _ c c' w h
  · exact reads_in A A' lb _ rfl l c c' w (by omega) hlc hc hA hAz hl hcm hA' hf
end Go.Proofs.YtclnpglnomfjkaaDoor

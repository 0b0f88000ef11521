/- What this text proves: the contract of the iterator that merkle.turns makes. The conditions are the numbers' sizes. whether a part leads to a root (the contract of merkle.leads). The conditions: sizes of what is asked about; how the way lies in memory; that the package's table is as its text lays it. -/
import Derived.Test.YtdeikpifflkabaaDoorMerWay
import Derived.Test.YtdeikpifflkabaaDoorMerFew
import Derived.Test.YtdeikpifflkabaaDoorSeq
import Derived.BigFrameIn
import Derived.Sort.QuietIn
import Derived.Test.YtdeikpifflkabaaDoorMerRootC
import Derived.Test.YtdeikpifflkabaaDoorQuiet
import Derived.Test.YtdeikpifflkabaaDoorBlakeDg
import Derived.Deep.DeepMust
namespace Go.Proofs.YtdeikpifflkabaaDoor
open Go.RowKit Go.Shelf
set_option linter.unusedVariables false
set_option linter.unusedSimpArgs false
attribute [local go_sem] Oper.semAt_some wide_fn wide_depth

def tEnc (x : Bool × Nat) : Array Value := #[.bool x.1, .int .i64 (x.2 : Int)]
/-- What turns: the iterator's two blocks. -/
def TX (gi gn : Nat) (k : Nat) (o : Obj) : Prop := (k = gi ∨ k = gn) ∧ o.isCells = true
/-- What a round keeps. -/
def TK (gi gn : Nat) (W W' : World) : Prop := ∀ k o, (k = gi ∨ k = gn) → W.heap[k]? = some o → W'.heap[k]? = some o
theorem TK.trans {gi gn : Nat} {A B C : World} (h : TK gi gn A B) (h' : TK gi gn B C) : TK gi gn A C := fun k o hk ho => h' k o hk (h k o hk ho)
theorem TK.refl (gi gn : Nat) (W : World) : TK gi gn W W := fun _ _ _ h => h
noncomputable def curN (gn : Nat) (W : World) : Nat := match W.cell? ⟨gn, 0, none⟩ with
  | some (.int _ n) => n.toNat
  | _ => 0
theorem curN_of {gn : Nat} {W : World} {n : Nat} (h : Bk W gn 3 #[.int .i64 (n : Int)]) : curN gn W = n := by
  unfold curN
  rw [h.cell 0]
  simp
/-- The maker of the iterator. -/
theorem turns_any (i n : Int) (w : World) :
    Calls Tryd.prog 54 #[.int .i64 i, .int .i64 n] w fun e w' => e = .returned (.func (.func 65) #[] #[.pointer (some ⟨w.heap.size + 1, 0, none⟩), .pointer (some ⟨w.heap.size, 0, none⟩)]) ∧ (w.alloc (.cells #[.int .i64 i] 3)).alloc (.cells #[.int .i64 n] 3) = w' := by
  go_enter Tryd.func54, Tryd.ntmps54
  go_wp2
  go_ret
  exact ⟨rfl, rfl⟩

set_option maxRecDepth 100000 in
set_option maxHeartbeats 4000000 in
theorem turns_seq (n gi gn : Nat) (hne : gi ≠ gn) (i N : Nat) (hi : i ≤ 4096) (hN : N ≤ 4096) (w : World) (hgi : Bk w gi 3 #[.int .i64 (i : Int)]) (hgn : Bk w gn 3 #[.int .i64 (N : Int)]) :
    SeqJ n Tryd.prog 65 #[.pointer (some ⟨gn, 0, none⟩), .pointer (some ⟨gi, 0, none⟩)] tEnc (TX gi gn) (TK gi gn) (fun xs => xs = turnsL i N) (fun pre => ∃ r, turnsL i N = pre ++ r) (fun _ => True) w := by
  intro L J Jx W hm hL1 hL2 hJ hJx hBd hY h0
  have hgi0 := Lib.hid (hm.bk hgi (fun h => h))
  have hgn0 := Lib.hid (hm.bk hgn (fun h => h))
  have H0 := Lib.hid h0
  clear hm hgi hgn h0
  refine callsIn_of_wp Tryd.func65 rfl trivial ?_ rfl
  simp only [Tryd.ntmps65, List.size_toArray, List.length_cons, List.length_nil, Nat.reduceAdd, Nat.reduceSub, Array.replicate_succ, Array.replicate_zero, List.push_toArray, List.append_toArray, List.nil_append, List.cons_append]
  gi_wp2
  gi_loopw [4] (fun s wr => ∃ (pre : List (Bool × Nat)) (i' n' : Nat), turnsL i N = pre ++ turnsL i' n' ∧ i' ≤ 4096 ∧ n' ≤ 4096 ∧ J pre wr ∧ Bk wr gi 3 #[.int .i64 (i' : Int)] ∧ Bk wr gn 3 #[.int .i64 (n' : Int)]) (fun _ wr => curN gn wr)
  case atStart => exact ⟨[], i, N, rfl, hi, hN, H0.out, hgi0.out, hgn0.out⟩
  case round =>
    obtain ⟨pre, i', n', hT, hi', hn', hj, hki, hkn⟩ := hrel
    have HT := Lib.hid hT
    have KI := Lib.hid hki
    have KN := Lib.hid hkn
    have HJ := Lib.hid hj
    have ci := hki.cell 0
    have cn := hkn.cell 0
    clear hT hj hki hkn H0 hgi0 hgn0 hi hN
    by_cases h2 : 2 ≤ n'
    · have e1 : decide ((1 : Int) < (n' : Int)) = true := decide_eq_true (by omega)
      obtain ⟨k, hk⟩ : ∃ k, splitN n' = k := ⟨_, rfl⟩
      have hkn' := splitN_lt h2
      have hk1 := splitN_pos n'
      have hsp := split_any n' h2 (by omega)
      rw [hk] at hkn' hk1 hsp
      have HSP := Lib.hid hsp
      have HK := Lib.hid hk
      clear hsp hk
      by_cases hik : i' < k
      · have e2 : decide ((i' : Int) < (k : Int)) = true := decide_eq_true (by omega)
        have hst := turnsL_left (i := i') h2 (by rw [HK.out]; exact hik)
        rw [HK.out] at hst
        obtain ⟨fn, tmps, assign, body, hy, hR⟩ := hY pre (true, k) wr HJ.out ⟨turnsL i' k, by rw [HT.out, hst]; simp⟩
        simp only [tEnc] at hy
        have HST := Lib.hid hst
        clear hst
        gi_wp2_with (gi_at_call 46; refine (callsIn_wide.2 (HSP.out _)).mono ?_; rintro e w1 ⟨rfl, hw1⟩; rw [hw1]; clear hw1)
        refine hR.mono ?_
        rintro e W3 (⟨rfl, hJ3, hk3⟩ | ⟨rfl, hJx3⟩)
        · have KI3 := Lib.hid (show Bk W3 gi 3 #[.int .i64 (i' : Int)] from hk3 gi _ (.inl rfl) KI.out)
          have KN3 := Lib.hid (show Bk W3 gn 3 #[.int .i64 (n' : Int)] from hk3 gn _ (.inr rfl) KN.out)
          have HJ3 := Lib.hid hJ3
          have ci3 := KI3.out.cell 0
          have cn3 := KN3.out.cell 0
          have fn3 := KN3.out.frozen 0
          clear hJ3 hk3 ci cn HJ hR hy
          gi_wp2
          have hm4 : Moves (TX gi gn) W3 (W3.setCell ⟨gn, 0, none⟩ (.int .i64 (k : Int))) := Moves.setCell _ _ _ (fun o ho => ⟨.inr rfl, by
            have ho' : W3.heap[gn]? = some o := ho
            rw [show W3.heap[gn]? = _ from KN3.out] at ho'
            cases ho'
            rfl⟩)
          have KN4 := KN3.out.set_ 0 (.int .i64 (k : Int))
          have KI4 := KI3.out.far (p := ⟨gn, 0, none⟩) hne (.int .i64 (k : Int))
          go_roundw
          case rel => exact ⟨pre ++ [(true, k)], i', k, by rw [HT.out, HST.out]; simp, hi', by omega, hJ _ _ _ HJ3.out hm4, KI4, KN4⟩
          case measure =>
            have e3 := curN_of (n := k) KN4
            have e4 := curN_of KN.out
            rw [e3, e4]
            exact hkn'
        · gi_wp2
          refine bodyPost_ret (results_none rfl _ _ _) rfl ?_
          exact ⟨⟨_, rfl⟩, .inr ⟨_, ⟨turnsL i' k, by rw [HT.out, HST.out]; simp⟩, hJx3⟩⟩
      · have e2 : decide ((i' : Int) < (k : Int)) = false := decide_eq_false (by omega)
        have hst := turnsL_right (i := i') h2 (by rw [HK.out]; exact hik)
        rw [HK.out] at hst
        obtain ⟨fn, tmps, assign, body, hy, hR⟩ := hY pre (false, k) wr HJ.out ⟨turnsL (i' - k) (n' - k), by rw [HT.out, hst]; simp⟩
        simp only [tEnc] at hy
        have HST := Lib.hid hst
        clear hst
        gi_wp2_with (gi_at_call 46; refine (callsIn_wide.2 (HSP.out _)).mono ?_; rintro e w1 ⟨rfl, hw1⟩; rw [hw1]; clear hw1)
        refine hR.mono ?_
        rintro e W3 (⟨rfl, hJ3, hk3⟩ | ⟨rfl, hJx3⟩)
        · have KI3 := Lib.hid (show Bk W3 gi 3 #[.int .i64 (i' : Int)] from hk3 gi _ (.inl rfl) KI.out)
          have KN3 := Lib.hid (show Bk W3 gn 3 #[.int .i64 (n' : Int)] from hk3 gn _ (.inr rfl) KN.out)
          have HJ3 := Lib.hid hJ3
          have ci3 := KI3.out.cell 0
          have cn3 := KN3.out.cell 0
          have fn3 := KN3.out.frozen 0
          have fi3 := KI3.out.frozen 0
          have e5 : IntKind.i64.wrap ((i' : Int) - (k : Int)) = (i' : Int) - (k : Int) := IntWalk.i64_in _ (by omega)
          have e6 : IntKind.i64.wrap ((n' : Int) - (k : Int)) = (n' : Int) - (k : Int) := IntWalk.i64_in _ (by omega)
          clear hJ3 hk3 ci cn HJ hR hy
          gi_wp2
          gi_region
          have cell_ : ∀ o, W3.heap[gi]? = some o → o.isCells = true := fun o ho => by
            rw [show W3.heap[gi]? = _ from KI3.out] at ho
            cases ho
            rfl
          have celln : ∀ o, W3.heap[gn]? = some o → o.isCells = true := fun o ho => by
            rw [show W3.heap[gn]? = _ from KN3.out] at ho
            cases ho
            rfl
          have hm4 : Moves (TX gi gn) W3 (((W3.setCell ⟨gi, 0, none⟩ (.int .i64 ((i' : Int) - (k : Int)))).setCell ⟨gn, 0, none⟩ (.int .i64 ((n' : Int) - (k : Int)))).drew) := by
            have m1 : Moves (fun k _ => k = gi ∨ k = gn) W3 (W3.setCell ⟨gi, 0, none⟩ (.int .i64 ((i' : Int) - (k : Int)))) := Moves.setCell _ _ _ (fun _ _ => .inl rfl)
            have m2 : Moves (fun k _ => k = gi ∨ k = gn) (W3.setCell ⟨gi, 0, none⟩ (.int .i64 ((i' : Int) - (k : Int)))) ((W3.setCell ⟨gi, 0, none⟩ (.int .i64 ((i' : Int) - (k : Int)))).setCell ⟨gn, 0, none⟩ (.int .i64 ((n' : Int) - (k : Int)))) := Moves.setCell _ _ _ (fun _ _ => .inr rfl)
            have m3 := (m1.trans_ m2 (fun _ _ _ h => h)).trans_ (Moves.drew _ _) (fun _ _ _ h => h)
            exact ⟨m3.os, m3.tape, m3.output, m3.size, fun q o ho hn => m3.block q o ho (fun hq => hn ⟨hq, by
              rcases hq with rfl | rfl
              · exact cell_ o ho
              · exact celln o ho⟩)⟩
          have KI4 := ((KI3.out.set_ 0 (.int .i64 ((i' : Int) - (k : Int)))).far (p := ⟨gn, 0, none⟩) hne (.int .i64 ((n' : Int) - (k : Int)))).drew
          have KN4 := ((KN3.out.far (p := ⟨gi, 0, none⟩) (Ne.symm hne) (.int .i64 ((i' : Int) - (k : Int)))).set_ 0 (.int .i64 ((n' : Int) - (k : Int)))).drew
          rw [show ((n' : Int) - (k : Int)) = ((n' - k : Nat) : Int) by omega, show ((i' : Int) - (k : Int)) = ((i' - k : Nat) : Int) by omega] at KI4 KN4 hm4 ⊢
          have hJ4 := hJ _ _ _ HJ3.out hm4
          clear hm4
          gi_wp2
          go_roundw
          case rel => exact ⟨pre ++ [(false, k)], i' - k, n' - k, by rw [HT.out, HST.out]; simp, by omega, by omega, hJ4, KI4, KN4⟩
          case measure =>
            have e3 := curN_of (n := n' - k) KN4
            have e4 := curN_of KN.out
            rw [e3, e4]
            omega
        · gi_wp2
          refine bodyPost_ret (results_none rfl _ _ _) rfl ?_
          exact ⟨⟨_, rfl⟩, .inr ⟨_, ⟨turnsL (i' - k) (n' - k), by rw [HT.out, HST.out]; simp⟩, hJx3⟩⟩
    · have e1 : decide ((1 : Int) < (n' : Int)) = false := decide_eq_false (by omega)
      gi_wp2
      go_end0
      exact ⟨⟨_, rfl⟩, .inl ⟨pre, by rw [HT.out, turnsL_end h2]; simp, HJ.out⟩⟩
end Go.Proofs.YtdeikpifflkabaaDoor

namespace Go.Proofs.YtdeikpifflkabaaDoor
open Go.RowKit Go.Shelf
set_option linter.unusedVariables false
set_option linter.unusedSimpArgs false

/-- Whether a part leads to a root. -/
def leadsF (r : List UInt8) (idx : Int) (e : Ent) (path : List (List UInt8)) (N : Nat) : Bool :=
  decide (0 ≤ idx ∧ idx < (N : Int)) && ((upR (leafF e) idx.toNat N path.reverse).2 && ((upR (leafF e) idx.toNat N path.reverse).1 == r))
theorem leadsF_out {r : List UInt8} {idx : Int} {e : Ent} {path : List (List UInt8)} {N : Nat} (h : ¬ (0 ≤ idx ∧ idx < (N : Int))) : leadsF r idx e path N = false := by
  unfold leadsF
  rw [decide_eq_false h]
  rfl
theorem leadsF_in {r : List UInt8} {i : Nat} {e : Ent} {path : List (List UInt8)} {N : Nat} (h : i < N) : leadsF r (i : Int) e path N = ((upR (leafF e) i N path.reverse).2 && ((upR (leafF e) i N path.reverse).1 == r)) := by
  unfold leadsF
  rw [decide_eq_true (by omega)]
  rfl
theorem zip_rev {α β : Type} : ∀ (l : List α) (m : List β), l.length = m.length → (l.zip m).reverse = l.reverse.zip m.reverse
  | [], [], _ => rfl
  | a :: l, b :: m, h => by
    have hl : l.length = m.length := by simpa using h
    rw [List.zip_cons_cons, List.reverse_cons, List.reverse_cons, List.reverse_cons, zip_rev l m hl, List.zip_append (by rw [List.length_reverse, List.length_reverse, hl])]
    rfl
/-- The steps from the leaf to the root. -/
def stepsL (i N : Nat) (path : List (List UInt8)) : List (Bool × List UInt8) := (dirs i N).reverse.zip path
theorem dirs_len (i N : Nat) : (dirs i N).length = (turnsL i N).length := by rw [dirs, List.length_map]
theorem leads_fold {h : List UInt8} {i N : Nat} {path : List (List UInt8)} (hN : 1 ≤ N) (hl : (turnsL i N).length = path.length) : (upR h i N path.reverse).1 = (stepsL i N path).foldl stepUp h := by
  rw [upR_fold _ _ _ hN (by rw [List.length_reverse, hl]), zip_rev _ _ (by rw [dirs_len, List.length_reverse, hl]), List.reverse_reverse]
  rfl
theorem steps_at {i N : Nat} {path : List (List UInt8)} {j : Nat} {x : List UInt8} {t : Bool × Nat} (hl : (turnsL i N).length = path.length) (hj : j < path.length) (hx : path[j]? = some x) (ht : (turnsL i N)[path.length - 1 - j]? = some t) : (stepsL i N path)[j]? = some (t.1, x) := by
  unfold stepsL
  rw [List.getElem?_zip_eq_some]
  refine ⟨?_, hx⟩
  rw [List.getElem?_reverse (by rw [dirs_len, hl]; exact hj), dirs, List.length_map, hl, List.getElem?_map, ht]
  rfl
theorem steps_len {i N : Nat} {path : List (List UInt8)} (hl : (turnsL i N).length = path.length) : (stepsL i N path).length = path.length := by
  unfold stepsL
  rw [List.length_zip, List.length_reverse, dirs_len, hl, Nat.min_self]
def hAt (i N : Nat) (path : List (List UInt8)) (h : List UInt8) (j : Nat) : List UInt8 := ((stepsL i N path).take j).foldl stepUp h
theorem hAt_next {i N j : Nat} {path : List (List UInt8)} {h : List UInt8} {s : Bool × List UInt8} (hs : (stepsL i N path)[j]? = some s) : hAt i N path h (j + 1) = stepUp (hAt i N path h j) s := by
  unfold hAt
  rw [take_at hs, List.foldl_append]
  rfl
theorem stepUp_len (h : List UInt8) (s : Bool × List UInt8) : (stepUp h s).length = 32 := by
  unfold stepUp
  split
  · exact pairF_len _ _
  · exact pairF_len _ _
theorem hAt_len {i N : Nat} {path : List (List UInt8)} {h : List UInt8} (hh : h.length = 32) : ∀ j, (hAt i N path h j).length = 32 := by
  have key : ∀ (l : List (Bool × List UInt8)) (h : List UInt8), h.length = 32 → (l.foldl stepUp h).length = 32 := by
    intro l
    induction l with
    | nil => intro h hh; exact hh
    | cons s l ih => intro h hh; exact ih _ (stepUp_len h s)
  exact fun j => key _ _ hh
theorem hAt_all {i N : Nat} {path : List (List UInt8)} {h : List UInt8} (hN : 1 ≤ N) (hl : (turnsL i N).length = path.length) : hAt i N path h path.length = (upR h i N path.reverse).1 := by
  rw [leads_fold hN hl, hAt, List.take_of_length_le (by rw [steps_len hl]; exact Nat.le_refl _)]
def ptCells (idx : Int) (e : Ent) (A : Option Addr) (n c : Nat) : Array Value := #[.int .i64 idx, .string e.1, .string e.2, .slice A n c]
def boolsV (l : List (Bool × Nat)) : List Value := l.map fun x => .bool x.1
theorem bool_info : (Tryd.prog.info? 4).map (fun i => (i.zero, i.size, i.bytes)) = some (some (.bool false), 1, 1) := by kernel_rfl

set_option maxRecDepth 100000 in
set_option maxHeartbeats 4000000 in
theorem leads_out (r : List UInt8) (idx : Int) (e : Ent) (A : Option Addr) (n c N : Nat) (w : World) (h : ¬ (0 ≤ idx ∧ idx < (N : Int))) :
    Calls Tryd.prog 33 #[.agg (bts r).toArray, .agg (ptCells idx e A n c), .int .i64 (N : Int)] w fun en w' => en = .returned (.bool false) ∧ Below w.heap.size w w' := by
  unfold ptCells
  go_enter Tryd.func33, Tryd.ntmps33
  go_upto_region 1 with fail
  have K4 := Bk.new (w.alloc (.cells (bts r).toArray 26)) 41 #[.int .i64 idx, .string e.1, .string e.2, .slice A n c]
  have L2 : Below w.heap.size w ((w.alloc (.cells (bts r).toArray 26)).alloc (.cells #[.int .i64 idx, .string e.1, .string e.2, .slice A n c] 41)) := (by (first | assumption | (repeat (first | exact Below.refl _ _ | assumption | apply Below.drew | apply below_drewN | (refine Below.setCell ?_ (by (try simp) <;> omega) _) | (refine Below.alloc ?_ (by (try simp) <;> omega) _)))))
  rw [World.size_alloc] at K4
  obtain ⟨w2, hw2⟩ : ∃ W, (w.alloc (.cells (bts r).toArray 26)).alloc (.cells #[.int .i64 idx, .string e.1, .string e.2, .slice A n c] 41) = W := ⟨_, rfl⟩
  rw [hw2] at K4 L2 ⊢
  have x0 : w2.cell? ⟨w.heap.size + 1, 0, none⟩ = some (.int .i64 idx) := K4.cell 0
  clear hw2 K4
  by_cases h0 : idx < 0
  · have e1 : decide (idx < 0) = true := decide_eq_true h0
    go_wp2_with fail
    go_ret
    exact ⟨rfl, L2⟩
  · have e1 : decide (idx < 0) = false := decide_eq_false h0
    have e2 : decide ((N : Int) ≤ idx) = true := decide_eq_true (by omega)
    go_wp2_with fail
    go_ret
    exact ⟨rfl, L2⟩

/-- What the loop over the turns holds. -/
structure LI (w : World) (gs : Nat) (N0 : Nat) (pre : List (Bool × Nat)) (W : World) : Prop where
  b : Below gs w W
  row : ∃ v, Bk W gs 87 #[v] ∧ W.ownsRow N0 4 1 v pre.length (boolsV pre)
theorem LI.moves {w W W' : World} {gs N0 gi gn B : Nat} {pre : List (Bool × Nat)} (h : LI w gs N0 pre W) (h1 : gs < gi) (h2 : gs < gn) (h3 : gi < N0) (h4 : gn < N0) (h5 : gs < B) (hz : gs ≤ w.heap.size) (hm : Moves (fun k o => TX gi gn k o ∨ (B ≤ k ∧ o.isCells = false)) W W') : LI w gs N0 pre W' := by
  obtain ⟨hb, v, hv, ho⟩ := h
  refine ⟨hb.trans (hm.to_below (Nat.le_trans hz hb.size) ?_), v, hm.bk hv ?_, hm.own ho ?_⟩
  · rintro k o (⟨h | h, _⟩ | ⟨h, _⟩) <;> omega
  · rintro (⟨h | h, _⟩ | ⟨h, _⟩) <;> omega
  · rintro g cs hg (⟨h | h, _⟩ | ⟨_, h⟩)
    · omega
    · omega
    · cases h
theorem LI.step {w W w1 : World} {gs N0 gi gn B g cap : Nat} {pre : List (Bool × Nat)} {x : Bool × Nat} {v : Value} (h1 : gs < gi) (h2 : gs < gn) (h3 : gi < N0) (h4 : gn < N0) (hz : gs ≤ w.heap.size) (hN : N0 ≤ W.heap.size) (hb : Below gs w W) (hv : Bk W gs 87 #[v])
    (hrow : W.ownsRow N0 4 1 v pre.length (boolsV pre))
    (hg : (W.alloc (.cells #[.bool x.1] 4)).grownBy w1 v.ownBlock) (ho : w1.ownsRow N0 4 1 (.slice (some ⟨g, 0, none⟩) (pre.length + 1) cap) (pre.length + 1) (boolsV pre ++ [.bool x.1])) :
    KeepsFrom B W (w1.setCell ⟨gs, 0, none⟩ (.slice (some ⟨g, 0, none⟩) (pre.length + 1) cap)) ∧ TK gi gn W (w1.setCell ⟨gs, 0, none⟩ (.slice (some ⟨g, 0, none⟩) (pre.length + 1) cap)) ∧
      LI w gs N0 (pre ++ [x]) (w1.setCell ⟨gs, 0, none⟩ (.slice (some ⟨g, 0, none⟩) (pre.length + 1) cap)) := by
  have hv1 := (hv.alloc (.cells #[.bool x.1] 4)).grown hg (own_ne hrow hv (by decide))
  refine ⟨?_, ?_, ?_, _, hv1.set_ 0 _, ?_⟩
  · refine (((KeepsOthers.alloc W _).trans (KeepsOthers.of_grownBy hg ?_)).trans (KeepsOthers.setCell _ _ _)).from _
    intro j o hj ho'
    obtain ⟨_, _, cs, hcs⟩ := own_cells (hrow.alloc (.cells #[.bool x.1] 4)) hj
    rw [hcs] at ho'
    cases ho'
    rfl
  · intro k o hk hko
    have hkl := (Array.getElem?_eq_some_iff.1 hko).1
    have e1 : (W.alloc (.cells #[.bool x.1] 4)).heap[k]? = some o := (Below.heap_alloc W _ k hkl).trans hko
    have hkn : some k ≠ v.ownBlock := fun e => by
      have := (own_cells hrow e.symm).1
      rcases hk with rfl | rfl <;> omega
    have e2 : w1.heap[k]? = some o := (hg.block k (by rw [World.size_alloc]; omega) hkn).trans e1
    exact (Below.heap_setCell w1 ⟨gs, 0, none⟩ _ k (by simp; rcases hk with rfl | rfl <;> omega)).trans e2
  · refine ((hb.alloc (Nat.le_trans hz hb.size) _).grown hg (by have := hb.size; simp; omega) ?_).setCell (by simp) _
    intro k hk
    have := (own_cells hrow hk).1
    omega
  · have := own_far ho (p := ⟨gs, 0, none⟩) (own_ne ho hv1 (by decide)) (.slice (some ⟨g, 0, none⟩) (pre.length + 1) cap)
    simpa [boolsV] using this

attribute [local go_sem] Oper.semAt_some wide_fn wide_depth
attribute [local irreducible] digF
set_option maxRecDepth 100000 in
set_option maxHeartbeats 8000000 in
theorem leads_in (r : List UInt8) (hr32 : r.length = 32) (i : Nat) (e : Ent) (he1 : e.1.size ≤ 300) (he2 : e.2.size ≤ 300) (A : Option Addr) (path : List (List UInt8)) (c N : Nat) (w : World) (hiN : i < N) (hN : N ≤ 4096) (hp : path.length ≤ 1000) (hp32 : h32 path) (hrt : Roots w) (h0 : 0 < w.heap.size) (hA : Sl w w.heap.size 32 A path.length (hCells path)) :
    Calls Tryd.prog 33 #[.agg (bts r).toArray, .agg (ptCells (i : Int) e A path.length c), .int .i64 (N : Int)] w fun en w' => en = .returned (.bool (leadsF r (i : Int) e path N)) ∧ Below w.heap.size w w' := by
  have hzh := zero_hash
  have h0l : (bts hash0).length = 32 := by rw [bts_len, hash0_len]
  have HA := Lib.hid hA
  have HR := Lib.hid hrt
  have HP32 := Lib.hid hp32
  obtain ⟨k, v⟩ := e
  simp only at he1 he2
  unfold ptCells
  simp only
  clear hA hrt hp32
  refine (callsIn_wide (n := 9)).1 ?_
  refine callsIn_of_wp_marks Tryd.func33 rfl trivial ?_
  simp only [Tryd.ntmps33, List.size_toArray, List.length_cons, List.length_nil, Nat.reduceAdd, Nat.reduceSub, Array.replicate_succ, Array.replicate_zero, List.push_toArray, List.append_toArray, List.nil_append, List.cons_append]
  refine wpIn_wide.2 ?_
  go_upto_region 1 with fail
  have K3 := (Bk.new w 26 (bts r).toArray).alloc (.cells #[.int .i64 (i : Int), .string k, .string v, .slice A path.length c] 41)
  have K4 := Bk.new (w.alloc (.cells (bts r).toArray 26)) 41 #[.int .i64 (i : Int), .string k, .string v, .slice A path.length c]
  have L2 : Below w.heap.size w ((w.alloc (.cells (bts r).toArray 26)).alloc (.cells #[.int .i64 (i : Int), .string k, .string v, .slice A path.length c] 41)) := (by (first | assumption | (repeat (first | exact Below.refl _ _ | assumption | apply Below.drew | apply below_drewN | (refine Below.setCell ?_ (by (try simp) <;> omega) _) | (refine Below.alloc ?_ (by (try simp) <;> omega) _)))))
  rw [World.size_alloc] at K4
  obtain ⟨w2, hw2⟩ : ∃ W, (w.alloc (.cells (bts r).toArray 26)).alloc (.cells #[.int .i64 (i : Int), .string k, .string v, .slice A path.length c] 41) = W := ⟨_, rfl⟩
  obtain ⟨g3, hg3⟩ : ∃ g, w.heap.size = g := ⟨_, rfl⟩
  have z2 : w2.heap.size = g3 + 2 := by rw [← hw2, ← hg3]; simp
  rw [hw2] at K3 K4 L2 ⊢
  rw [hg3] at K3 K4 L2 ⊢
  have x0 : w2.cell? ⟨g3 + 1, 0, none⟩ = some (.int .i64 (i : Int)) := K4.cell 0
  have x1 : w2.cell? ⟨g3 + 1, 1, none⟩ = some (.string k) := K4.cell 1
  have x2 : w2.cell? ⟨g3 + 1, 2, none⟩ = some (.string v) := K4.cell 2
  have e1 : decide ((i : Int) < 0) = false := decide_eq_false (by omega)
  have e2 : decide ((N : Int) ≤ (i : Int)) = false := decide_eq_false (by omega)
  have e3 : decide ((4096 : Int) < (k.size : Int)) = false := decide_eq_false (by omega)
  have e4 : decide ((4096 : Int) < (v.size : Int)) = false := decide_eq_false (by omega)
  have HK3 := Lib.hid K3
  have HK4 := Lib.hid K4
  have HL2 := Lib.hid L2
  have HG3 := Lib.hid hg3
  have HZ2 := Lib.hid z2
  clear hw2 K3 K4 L2 hg3 z2
  have e2' : decide (N ≤ i) = false := decide_eq_false (by omega)
  go_upto_region 4 with fail
  have KS := Bk.new w2 87 #[.slice none 0 0]
  have L3 : Below g3 w (w2.alloc (.cells #[.slice none 0 0] 87)) := (HL2.out.alloc (by have := HZ2.out; omega) _)
  have K3 := HK3.out.alloc (.cells #[.slice none 0 0] 87)
  have K4 := HK4.out.alloc (.cells #[.slice none 0 0] 87)
  obtain ⟨w3, hw3⟩ : ∃ W, w2.alloc (.cells #[.slice none 0 0] 87) = W := ⟨_, rfl⟩
  have z3 : w3.heap.size = g3 + 3 := by rw [← hw3, World.size_alloc, HZ2.out]
  rw [HZ2.out] at KS ⊢
  rw [hw3] at KS L3 K3 K4 ⊢
  have x0 : w3.cell? ⟨g3 + 1, 0, none⟩ = some (.int .i64 (i : Int)) := K4.cell 0
  have HKS := Lib.hid KS
  have HL3 := Lib.hid L3
  have KK3 := Lib.hid K3
  have KK4 := Lib.hid K4
  have HZ3 := Lib.hid z3
  clear hw3 KS L3 K3 K4 z3 HK3 HK4 HL2 HZ2 x1 x2 e1 e2 e2' e3 e4
  go_wp2_with (go_at_call 54; with_reducible refine (turns_any (i : Int) (N : Int) _).mono ?_; rintro e w5 ⟨rfl, hw5⟩)
  have z5 : w5.heap.size = g3 + 5 := by rw [← hw5, World.size_alloc, World.size_alloc, HZ3.out]
  have hgi : Bk w5 (g3 + 3) 3 #[.int .i64 (i : Int)] := by
    have := (Bk.new w3 3 #[.int .i64 (i : Int)]).alloc (.cells #[.int .i64 (N : Int)] 3)
    rw [hw5, HZ3.out] at this
    exact this
  have hgn : Bk w5 (g3 + 4) 3 #[.int .i64 (N : Int)] := by
    have := Bk.new (w3.alloc (.cells #[.int .i64 (i : Int)] 3)) 3 #[.int .i64 (N : Int)]
    rw [hw5, World.size_alloc, HZ3.out] at this
    exact this
  have hb35 : Below w3.heap.size w3 w5 := by rw [← hw5]; (first | assumption | (repeat (first | exact Below.refl _ _ | assumption | apply Below.drew | apply below_drewN | (refine Below.setCell ?_ (by (try simp) <;> omega) _) | (refine Below.alloc ?_ (by (try simp) <;> omega) _))))
  have KS5 := HKS.out.below hb35 HKS.out.lt
  have K35 := Lib.hid (KK3.out.below hb35 KK3.out.lt)
  have K45 := Lib.hid (KK4.out.below hb35 KK4.out.lt)
  have L5 := Lib.hid (HL3.out.trans (hb35.mono (by have := HZ3.out; omega)))
  have HZ5 := Lib.hid z5
  rw [HZ3.out]
  clear hw5 hb35 HKS HL3 KK3 KK4 x0 z5
  refine (wpIn_wide (n := 9)).1 ?_
  refine range_J (gf := 65) (lb := #[.pointer (some ⟨g3 + 4, 0, none⟩), .pointer (some ⟨g3 + 3, 0, none⟩)]) rfl (enters_of Tryd.func65 (by kernel_rfl) rfl)
    (turns_seq 8 (g3 + 3) (g3 + 4) (by omega) i N (by omega) hN w5 hgi hgn) (fun k o h => h.2)
    TK.trans (fun W l o o' hl ho hc => fun q o1 hq hq1 => (World.putObj_heap_other (by have := HZ5.out; rcases hq with rfl | rfl <;> omega)).trans hq1) (fun _ => rfl)
    (fun pre W => pre.length ≤ 4096 ∧ LI w5 (g3 + 2) w5.heap.size pre W) (fun _ _ _ => False)
    (fun pre W W' h hm => ⟨h.1, h.2.moves (by omega) (by omega) (by have := HZ5.out; omega) (by have := HZ5.out; omega) (by have := HZ5.out; omega) (by have := HZ5.out; omega) hm⟩) (fun cd pre W W' h hm => h)
    ⟨by simp, Below.refl _ _, _, KS5, World.ownsRow_nil _ _ _ _⟩ (fun pre W h => trivial) ?round ?done ?stop
  case round =>
    intro L pre x W hL hi hlen
    obtain ⟨xb, xk⟩ := x
    simp only [tEnc]
    gi_wp2
    refine ⟨KeepsFrom.refl _ _, TK.refl _ _ _, hi, ?_⟩
    clear hi hgi hgn KS5
    intro W2 hi hm hrec
    obtain ⟨hlN, hB, v', hv, hrow⟩ := hi
    obtain ⟨i0, hii, hz0, hz1, hz2⟩ := info_parts bool_info
    have hcv := hv.cell 0
    have hpl : (pre ++ [(xb, xk)]).length ≤ 4096 := by
      obtain ⟨rr, hrr⟩ := hlen
      have h1 := turnsL_deep 12 N i (by omega)
      rw [hrr, List.length_append] at h1
      omega
    have HPL := Lib.hid hpl
    have HBB := Lib.hid hB
    have hBs := hB.size
    have hs5 := HZ5.out
    clear hlen hm hrec hpl
    gi_wp2_with (gi_at_builtin; go_must (refine wpListIn_append_own _ rfl _ _ 87 rfl w5.heap.size 4 i0 _ 1 1 Tryd.underlying87 hii hz0 hz1 hz2 rfl (by decide) _ _ _ rfl (hrow.alloc _) ⟨W2.heap.size, 0, none⟩ 1 1 [.bool xb] rfl rfl (cell_one_new _ _ _) (by simp [Value.oneCell']) (by unfold maxLen; omega) (by omega) (by simp; omega) ?_; intro v6 w6 hown' hgrow _; obtain ⟨g', cap', rfl⟩ := ownsRow_succ hown'; have hv1 := (hv.alloc (.cells #[.bool xb] 4)).grown hgrow (own_ne hrow hv (by decide)); have hf1 := hv1.frozen 0; have hc1 := hv1.cell 0))
    obtain ⟨s1, s2, s3⟩ := LI.step (gi := g3 + 3) (gn := g3 + 4) (B := w5.heap.size) (x := (xb, xk)) (by omega) (by omega) (by omega) (by omega) (by omega) hBs HBB.out hv hrow hgrow hown'
    exact ⟨s1, s2, HPL.out, s3⟩
  case stop =>
    rintro D cd pre W hD _ h
    exact h.elim
  case done =>
    rintro D xs W hD rfl ⟨_, hi⟩ hK
    obtain ⟨hB, v7, hv, hrow⟩ := hi
    obtain ⟨Av, cv, rfl, hv1, hv2, hvs⟩ := own_sl hrow
    have hs5 := HZ5.out
    have k3 := K35.out.below hB (by omega)
    have k4 := K45.out.below hB (by omega)
    have hcv := hv.cell 0
    have x1 : W.cell? ⟨g3 + 1, 1, none⟩ = some (.string k) := k4.cell 1
    have x2 : W.cell? ⟨g3 + 1, 2, none⟩ = some (.string v) := k4.cell 2
    have x3 : W.cell? ⟨g3 + 1, 3, none⟩ = some (.slice A path.length c) := k4.cell 3
    have LW : Hid (Below g3 w W) := Lib.hid (L5.out.trans (hB.mono (by have := L5.out.size; have := HG3.out; omega)))
    have KW3 := Lib.hid k3
    have KW4 := Lib.hid k4
    have KWS := Lib.hid hv
    have HVS := Lib.hid hvs
    have HKD := Lib.hid hK
    obtain ⟨n, hn⟩ : ∃ n, (turnsL i N).length = n := ⟨_, rfl⟩
    have HTN := Lib.hid hn
    rw [hn] at hcv KWS HVS
    have h1N : 1 ≤ N := by omega
    clear hB hv hrow hv1 hv2 hvs k3 k4 hgi hgn KS5 K35 K45 L5 hK hn
    by_cases hne : n = path.length
    · subst hne
      have e1 : ((path.length : Int) == (path.length : Int)) = true := by simp
      obtain ⟨H0, hH0⟩ : ∃ H, leafF (k, v) = H := ⟨_, rfl⟩
      have hH0l : H0.length = 32 := by rw [← hH0, leafF_len]
      have hbH : (bts H0).length = 32 := by rw [bts_len, hH0l]
      have hlc := leaf_any (k, v) (by simp only; omega) (by simp only; omega) W (HR.out.below (LW.out.mono (by have := HG3.out; omega)) h0) (Nat.lt_of_lt_of_le h0 LW.out.size)
      rw [hH0] at hlc
      have HLC := Lib.hid hlc
      have HH0 := Lib.hid hH0
      clear hlc hH0
      go_wp2_with fail
      with_reducible refine HLC.out.mono ?_
      rintro en wl ⟨rfl, hbl⟩
      have hWl := hbl.size
      go_upto_region 10 with (refine wpList_puts (by rfl) 26 _ _ (by with_reducible rfl) _ 0 (by rfl) (bts H0) (by rfl) 26 (bts hash0) (by exact Bk.new _ _ _) 32 hbH (by rw [h0l]; omega) hi_hash bts_all ?_; intro w9 hb_ hm_ hz_; rw [put_hash0 _ hH0l] at hb_; have KH9 := Lib.hid hb_; have M9 := Lib.hid hm_; clear hb_ hm_ hz_)
      have L9 : Hid (Below W.heap.size W w9) := Lib.hid ((hbl.alloc hWl (.cells (bts hash0).toArray 26)).trans (M9.out.to_below (by simp; omega) (fun k o e => by rw [e]; exact hWl)))
      have KH := KH9.out
      obtain ⟨gh, hgh⟩ : ∃ g, wl.heap.size = g := ⟨_, rfl⟩
      have hWg : W.heap.size ≤ gh := by omega
      rw [hgh] at KH ⊢
      have k4 := KW4.out.below L9.out KW4.out.lt
      have x3 : w9.cell? ⟨g3 + 1, 3, none⟩ = some (.slice A path.length c) := k4.cell 3
      have KHH := Lib.hid KH
      clear KH9 M9 hgh hbl hWl KH hcv x1 x2 e1 HLC k4
      go_wp2_with fail
      clear x3
      go_loopw [57] (fun cn wr => ∃ (j : Nat), j ≤ path.length ∧ cn = .int .i64 j ∧ Bk wr gh 26 (bts (hAt i N path H0 j)).toArray ∧ Below gh w9 wr) (fun cn _ => path.length - (intOf cn).toNat)
      case atStart => exact ⟨0, by omega, rfl, KHH.out, Below.refl _ _⟩
      case round =>
        obtain ⟨j, hj, rfl, hkh, hbel⟩ := hrel
        have hghl := hkh.lt
        have BW_ := Lib.hid (L9.out.trans (hbel.mono (by omega)))
        have KH := Lib.hid hkh
        have HBL := Lib.hid hbel
        clear hkh hbel KHH
        have hjl := hAt_len (i := i) (N := N) (path := path) hH0l j
        by_cases hlt : j < path.length
        · have hlt' : (j : Int) < (path.length : Int) := by omega
          have LWr := Lib.hid (LW.out.trans (BW_.out.mono (by have := LW.out.size; have := HG3.out; omega)))
          obtain ⟨b, off, x, rfl, hb, hx, hrg⟩ := HA.out.hsh HP32.out hlt
          have hxl : x.length = 32 := HP32.out.at_ hx
          have hrg' := rangeAt_below hrg (LWr.out.mono (by have := HG3.out; omega)) hb
          obtain ⟨t, ht⟩ : ∃ t, (turnsL i N)[path.length - 1 - j]? = some t := ⟨_, List.getElem?_eq_getElem (by have := HTN.out; omega)⟩
          have hst := steps_at HTN.out hlt hx ht
          have hnx := hAt_next (h := H0) hst
          obtain ⟨bs, offs, u, rfl, hbs, hcu, hu⟩ := HVS.out.one (k := path.length - 1 - j) (by omega)
          have hub : u = .bool t.1 := by
            rw [boolsV, List.getElem?_map, ht] at hu
            exact (Option.some.inj hu).symm
          subst hub
          have csd : wr.cell? ⟨bs, offs + (path.length - 1 - j), none⟩ = some (.bool t.1) := (BW_.out.cell (p := ⟨bs, offs + (path.length - 1 - j), none⟩) hbs).trans hcu
          have kws := KWS.out.below BW_.out KWS.out.lt
          have hcv := kws.cell 0
          obtain ⟨tb, tk⟩ := t
          simp only at csd hnx hst
          have HNX := Lib.hid hnx
          have HX := Lib.hid hx
          have HRG := Lib.hid hrg'
          obtain ⟨hjj, hhj⟩ : ∃ q, hAt i N path H0 j = q := ⟨_, rfl⟩
          rw [hhj] at hjl KH HNX
          clear hrg hrg' hx ht hu hcu hst hnx kws hhj
          have hbx : (bts x).length = 32 := by rw [bts_len, hxl]
          have hbj : (bts hjj).length = 32 := by rw [bts_len, hjl]
          go_upto_region 13 with (first
            | (refine wpList_val (by rfl) (run_ldh _ (by with_reducible rfl) b (off + j * 32) (by rfl) x hxl (by exact HRG.out)) ?_)
            | (refine wpList_puts (by rfl) 26 _ _ (by with_reducible rfl) _ 0 (by rfl) (bts x) (by rfl) 26 (bts hash0) (by exact Bk.new _ _ _) 32 hbx (by rw [h0l]; omega) hi_hash bts_all ?_; intro w10 hb_ hm_ hz_; rw [put_hash0 _ hxl] at hb_; have KX10 := Lib.hid hb_; have M10 := Lib.hid hm_; clear hb_ hm_ hz_))
          have L10 : Hid (Below wr.heap.size wr w10) := Lib.hid (((Below.refl wr.heap.size wr).alloc (Nat.le_refl _) (.cells (bts hash0).toArray 26)).trans (M10.out.to_below (by simp) (fun k o e => by rw [e]; exact Nat.le_refl _)))
          have KX := KX10.out
          obtain ⟨gx, hgx⟩ : ∃ g, wr.heap.size = g := ⟨_, rfl⟩
          have hgg : gh < gx := by omega
          rw [hgx] at KX ⊢
          have KXX := Lib.hid KX
          have KH10 := Lib.hid (KH.out.below L10.out KH.out.lt)
          have hbsr : bs < wr.heap.size := Nat.lt_of_lt_of_le hbs BW_.out.size
          have csd10 : w10.cell? ⟨bs, offs + (path.length - 1 - j), none⟩ = some (.bool tb) := (L10.out.cell (p := ⟨bs, offs + (path.length - 1 - j), none⟩) hbsr).trans csd
          have kws10 := (KWS.out.below BW_.out KWS.out.lt)
          have kws11 := kws10.below L10.out kws10.lt
          have hcv10 := kws11.cell 0
          have HGX := Lib.hid hgx
          have B10 := Lib.hid (BW_.out.trans (L10.out.mono BW_.out.size))
          have HBG := Lib.hid (HBL.out.trans (L10.out.mono (by omega)))
          obtain ⟨q, hq⟩ : ∃ q, path.length - 1 - j = q := ⟨_, rfl⟩
          have hqi : (path.length : Int) - 1 - (j : Int) = (q : Int) := by omega
          have hql : (q : Int) < (path.length : Int) := by omega
          rw [hq] at csd10
          clear KX KX10 M10 csd hcv kws10 kws11 hq hbsr hgx L10
          have hpc1 := Lib.hid fun (p1 p2 : List UInt8) (h1 : p1.length = 32) (h2 : p2.length = 32) => pair_any p1 p2 h1 h2 w10 (HR.out.below (LW.out.trans (B10.out.mono (by have := LW.out.size; have := HG3.out; omega)) |>.mono (by have := HG3.out; omega)) h0) (Nat.lt_of_lt_of_le h0 (Nat.le_trans LW.out.size B10.out.size))
          cases tb with
          | true =>
            have hJ1 : stepUp hjj (true, x) = pairF hjj x := rfl
            rw [hJ1] at HNX
            obtain ⟨J, hJ⟩ : ∃ J, pairF hjj x = J := ⟨_, rfl⟩
            have hJl : J.length = 32 := by rw [← hJ, pairF_len]
            have hbJ : (bts J).length = 32 := by rw [bts_len, hJl]
            have hpc := hpc1.out hjj x hjl hxl
            rw [hJ] at hpc HNX
            have HPC := Lib.hid hpc
            clear hpc hJ hJ1 hpc1
            go_wp2_with (first
              | (refine wpList_val (by rfl) (run_ldh _ (by with_reducible rfl) gh 0 (by rfl) hjj hjl (by exact KH10.out.all)) ?_)
              | (refine wpList_val (by rfl) (run_ldh _ (by with_reducible rfl) gx 0 (by rfl) x hxl (by exact KXX.out.all)) ?_))
            with_reducible refine HPC.out.mono ?_
            rintro en w11 ⟨rfl, hb11⟩
            have KH11 := Lib.hid (KH10.out.below hb11 KH10.out.lt)
            have HB11 := Lib.hid (HBG.out.trans (hb11.mono (by have := KH10.out.lt; omega)))
            clear hb11 HPC csd10 hcv10
            go_wp2_with (refine wpList_puts (by rfl) 26 _ _ (by with_reducible rfl) gh 0 (by rfl) (bts J) (by rfl) 26 (bts hjj) (by exact KH11.out) 32 hbJ (by omega) hi_hash bts_all ?_; intro w12 hb_ hm_ hz_; rw [put_all (by rw [hbJ, hbj])] at hb_; have KH12 := Lib.hid hb_; have M12 := Lib.hid hm_; clear hb_ hm_ hz_)
            go_roundw
            case rel => exact ⟨j + 1, by omega, by go_num, by rw [HNX.out]; exact KH12.out, HB11.out.trans (M12.out.to_below (by have := KH11.out.lt; omega) (fun k o e => by rw [e]; exact Nat.le_refl _))⟩
            case measure => simp [intOf]; omega
          | false =>
            have hJ1 : stepUp hjj (false, x) = pairF x hjj := rfl
            rw [hJ1] at HNX
            obtain ⟨J, hJ⟩ : ∃ J, pairF x hjj = J := ⟨_, rfl⟩
            have hJl : J.length = 32 := by rw [← hJ, pairF_len]
            have hbJ : (bts J).length = 32 := by rw [bts_len, hJl]
            have hpc := hpc1.out x hjj hxl hjl
            rw [hJ] at hpc HNX
            have HPC := Lib.hid hpc
            clear hpc hJ hJ1 hpc1
            go_wp2_with (first
              | (refine wpList_val (by rfl) (run_ldh _ (by with_reducible rfl) gh 0 (by rfl) hjj hjl (by exact KH10.out.all)) ?_)
              | (refine wpList_val (by rfl) (run_ldh _ (by with_reducible rfl) gx 0 (by rfl) x hxl (by exact KXX.out.all)) ?_))
            with_reducible refine HPC.out.mono ?_
            rintro en w11 ⟨rfl, hb11⟩
            have KH11 := Lib.hid (KH10.out.below hb11 KH10.out.lt)
            have HB11 := Lib.hid (HBG.out.trans (hb11.mono (by have := KH10.out.lt; omega)))
            clear hb11 HPC csd10 hcv10
            go_wp2_with (refine wpList_puts (by rfl) 26 _ _ (by with_reducible rfl) gh 0 (by rfl) (bts J) (by rfl) 26 (bts hjj) (by exact KH11.out) 32 hbJ (by omega) hi_hash bts_all ?_; intro w12 hb_ hm_ hz_; rw [put_all (by rw [hbJ, hbj])] at hb_; have KH12 := Lib.hid hb_; have M12 := Lib.hid hm_; clear hb_ hm_ hz_)
            go_roundw
            case rel => exact ⟨j + 1, by omega, by go_num, by rw [HNX.out]; exact KH12.out, HB11.out.trans (M12.out.to_below (by have := KH11.out.lt; omega) (fun k o e => by rw [e]; exact Nat.le_refl _))⟩
            case measure => simp [intOf]; omega
        · obtain rfl : j = path.length := by omega
          obtain ⟨J, hJ⟩ : ∃ J, hAt i N path H0 path.length = J := ⟨_, rfl⟩
          rw [hJ] at hjl KH
          have hbJ : (bts J).length = 32 := by rw [bts_len, hjl]
          have hbr : (bts r).length = 32 := by rw [bts_len, hr32]
          have HRES : Hid (leadsF r (i : Int) (k, v) path N = (J == r)) := Lib.hid (by
            rw [leadsF_in hiN, upR_ok _ _ _ h1N, List.length_reverse, HTN.out, decide_eq_true rfl, Bool.true_and, HH0.out, ← hAt_all h1N HTN.out, hJ])
          obtain ⟨res, hres⟩ : ∃ b, (J == r) = b := ⟨_, rfl⟩
          have K3r := Lib.hid (KW3.out.below BW_.out KW3.out.lt)
          have HKr : Hid (wr.heap[D]? = some (.deferred (some []))) := Lib.hid ((BW_.out.block D (Array.getElem?_eq_some_iff.1 HKD.out).1).trans HKD.out)
          have Lr := Lib.hid (LW.out.trans (BW_.out.mono (by have := LW.out.size; have := HG3.out; omega)))
          rw [hres] at HRES
          have hEQ := Lib.hid fun (o : Oper) (a : Act) (W : World) (x y : Operand) (ty : TypeId) (ho : o.op = .binOp .eql 26 x y ty) (hx : a.eval x = .agg (bts J).toArray) (hy : a.eval y = .agg (bts r).toArray) => run_eqh (w := W) x y ty ho J r hx hy hjl hr32
          rw [hres] at hEQ
          clear hJ hres
          go_wp2_with (first
            | (refine wpList_val (by rfl) (run_ldh _ (by with_reducible rfl) gh 0 (by rfl) J hjl (by exact KH.out.all)) ?_)
            | (refine wpList_val (by rfl) (run_ldh _ (by with_reducible rfl) g3 0 (by rfl) r hr32 (by exact K3r.out.all)) ?_)
            | (refine wpList_val (by rfl) (hEQ.out _ _ _ _ _ _ (by with_reducible rfl) (by rfl) (by rfl)) ?_))
          refine ⟨by simp, .inl ⟨_, _, rfl, run_takeDeferred HKr.out, ?_⟩⟩
          refine ⟨_, results_tmp rfl _ _ _, by rw [HRES.out]; rfl, ?_⟩
          rw [HG3.out]
          exact Lr.out.trans ((Moves.putObj (X := fun k _ => g3 ≤ k) wr D _ (fun o _ => by omega)).to_below (by have := Lr.out.size; have := HG3.out; omega) (fun k _ h => h))
    · have e1 : ((n : Int) == (path.length : Int)) = false := by simp; omega
      have HRES : Hid (leadsF r (i : Int) (k, v) path N = false) := Lib.hid (by
        rw [leadsF_in hiN, upR_ok _ _ _ h1N, List.length_reverse, HTN.out, decide_eq_false (by omega)]
        rfl)
      go_wp2_with fail
      refine ⟨by simp, .inl ⟨_, _, rfl, run_takeDeferred HKD.out, ?_⟩⟩
      refine ⟨_, results_tmp rfl _ _ _, by rw [HRES.out]; rfl, ?_⟩
      rw [HG3.out]
      exact LW.out.trans ((Moves.putObj (X := fun k _ => g3 ≤ k) W D _ (fun o _ => by omega)).to_below (by have := LW.out.size; have := HG3.out; omega) (fun k _ h => h))
end Go.Proofs.YtdeikpifflkabaaDoor

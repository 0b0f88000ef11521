/- What this text proves: what the laws of layer 3 share: an operation of a region that draws its order and reads; digests compared; a digest under way and what keeps it. The conditions are the laws' own premises. -/
import Derived.Test.YtdeikpifflkabaaDoorBlakeDig
import Derived.Test.YtdeikpifflkabaaDoorQuiet
import Derived.Test.YtdeikpifflkabaaDoorAppendSl
namespace Go.Proofs.YtdeikpifflkabaaDoor
open Go.RowKit
set_option linter.unusedVariables false
set_option linter.unusedSimpArgs false

theorem quiet_val {P : Program} {o : Oper} {a : Act} {C : World → Prop} {K : Act → Prop} {v : Value} (hr : ∀ W, C W → (execOp a.eval o).run P W = .ok (.value v) W) (hk : K (a.put o.dst v)) : o.quiet P a C K :=
  ⟨v, fun W hW => by unfold Oper.quietAt; rw [hr W hW]; exact ⟨rfl, rfl⟩, hk⟩
theorem hm_hash : Tryd.prog.eqGuardType Tryd.prog.depth 26 = false := by kernel_rfl
/-- Two digests that are one. -/
theorem run_same {o : Oper} {a : Act} {w : World} (x y : Operand) (ty : TypeId) (ho : o.op = .binOp .eql 26 x y ty) (p : List UInt8) (hx : a.eval x = .agg (bts p).toArray) (hy : a.eval y = .agg (bts p).toArray) (hp : p.length = 32) :
    (execOp a.eval o).run Tryd.prog w = .ok (.value (.bool true)) w := by
  have h := run_bytes_eql (P := Tryd.prog) (w := w) 26 5 ty x y ho 32 Tryd.underlying26 Tryd.underlying5 hs_u8' hm_hash p p hx hy hp hp
  rwa [show (p == p) = true from beq_self_eq_true p] at h
theorem run_eqh {o : Oper} {a : Act} {w : World} (x y : Operand) (ty : TypeId) (ho : o.op = .binOp .eql 26 x y ty) (p q : List UInt8) (hx : a.eval x = .agg (bts p).toArray) (hy : a.eval y = .agg (bts q).toArray) (hp : p.length = 32) (hq : q.length = 32) :
    (execOp a.eval o).run Tryd.prog w = .ok (.value (.bool (p == q))) w :=
  run_bytes_eql (P := Tryd.prog) (w := w) 26 5 ty x y ho 32 Tryd.underlying26 Tryd.underlying5 hs_u8' hm_hash p q hx hy hp hq
theorem run_ldh {o : Oper} {a : Act} {w : World} (x : Operand) (ho : o.op = .load 26 x) (b off : Nat) (hx : a.eval x = .pointer (some ⟨b, off, none⟩)) (p : List UInt8) (hp : p.length = 32) (hc : w.rangeAt b off (bts p)) :
    (execOp a.eval o).run Tryd.prog w = .ok (.value (.agg (bts p).toArray)) w :=
  run_load_seg 26 x ho b off hx (bts p) hc 32 (by rw [bts_len, hp]) _ Tryd.underlying26 (by rfl) hi_hash
theorem BW.range {w : World} (x : BW w) {b off : Nat} {cs : List Value} (h : w.rangeAt b off cs) (hb : b < w.heap.size) : x.val.rangeAt b off cs := rangeAt_below h x.below hb
theorem bw_range {w W : World} (hW : ∃ x : BW w, W = x.val) {b off : Nat} {cs : List Value} (h : w.rangeAt b off cs) (hb : b < w.heap.size) : W.rangeAt b off cs := by
  obtain ⟨x, rfl⟩ := hW; exact x.range h hb
theorem built_hash0 : Tryd.prog.built 26 [] = some (bts hash0).toArray := by kernel_rfl

/-- A digest under way at block gs that was written l; what is older than w is as it was. -/
structure DgAt (w : World) (gs : Nat) (l : List UInt8) (W : World) : Prop where
  s : Bk W gs 100 (writeF BSt.new l).cells.toArray
  b : Below w.heap.size w W
  ge : w.heap.size ≤ gs
theorem DgAt.below {w W W' : World} {gs : Nat} {l : List UInt8} (h : DgAt w gs l W) (hb : Below W.heap.size W W') : DgAt w gs l W' :=
  ⟨h.s.below hb h.s.lt, h.b.trans (hb.mono h.b.size), h.ge⟩
theorem DgAt.moves {w W W' : World} {gs g : Nat} {l : List UInt8} (h : DgAt w gs l W) (hm : Moves (fun k _ => k = g) W W') (hg : gs ≠ g) (hw : w.heap.size ≤ g) : DgAt w gs l W' :=
  ⟨hm.bk h.s (by omega), h.b.trans (hm.to_below h.b.size (fun k _ e => by omega)), h.ge⟩
theorem dg_new {w W : World} (hr : Roots w) (h0 : 0 < w.heap.size) (hb : Below w.heap.size w W) :
    Calls Tryd.prog 43 #[] W fun e W' => ∃ gs, e = .returned (.pointer (some ⟨gs, 0, none⟩)) ∧ W.heap.size ≤ gs ∧ DgAt w gs [] W' ∧ Below W.heap.size W W' :=
  (new_any W (hr.below hb h0)).mono fun e W' ⟨gs, he, hg, hbk, hbl⟩ => ⟨gs, he, hg, ⟨hbk, hb.trans (hbl.mono hb.size), Nat.le_trans hb.size hg⟩, hbl⟩
theorem dg_write {w W : World} {gs : Nat} {l m : List UInt8} (hr : Roots w) (h0 : 0 < w.heap.size) (h : DgAt w gs l W) (A : Option Addr) (c : Nat) (hm : m.length ≤ maxLen) (hA : Src W gs A m) :
    Calls Tryd.prog 44 #[.pointer (some ⟨gs, 0, none⟩), .slice A m.length c] W fun e W' => e = .returned (.tuple #[]) ∧ DgAt w gs (l ++ m) W' ∧ Moves (fun k _ => k = gs) W W' :=
  (write_any gs _ A m c W (writeF_ok BSt.new_ok) h.s (hr.below h.b h0) (Nat.lt_of_lt_of_le h0 h.ge) hm hA).mono fun e W' ⟨he, hb, hm'⟩ =>
    ⟨he, ⟨by rw [writeF_append] at hb; exact hb, h.b.trans (hm'.to_below h.b.size (fun k _ e => by have := h.ge; omega)), h.ge⟩, hm'⟩
theorem dg_sum {w W : World} {gs : Nat} {l : List UInt8} (hr : Roots w) (h0 : 0 < w.heap.size) (h : DgAt w gs l W) :
    Calls Tryd.prog 45 #[.pointer (some ⟨gs, 0, none⟩)] W fun e W' => e = .returned (.agg (bts (digF l)).toArray) ∧ Below W.heap.size W W' :=
  sum_any gs _ W (writeF_ok BSt.new_ok) h.s (hr.below h.b h0) (Nat.lt_of_lt_of_le h0 h.b.size)
end Go.Proofs.YtdeikpifflkabaaDoor

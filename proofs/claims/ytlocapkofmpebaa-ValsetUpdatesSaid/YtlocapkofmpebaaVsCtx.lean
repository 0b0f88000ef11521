/- What this text proves: helpers for the laws of layer 7: Update called with changes built on the spot; what is known of a world while the laws go on. -/
import Derived.Test.YtlocapkofmpebaaVsSame
import Derived.Test.YtlocapkofmpebaaVsLawMath
namespace Go.Proofs.Ytlocapkofmpebaa
open Go.RowKit
set_option linter.unusedVariables false
set_option linter.unusedSimpArgs false

theorem one_sl (w : World) (k p : Int) : Sl (w.alloc (.cells #[.int .u64 k, .int .i64 p] 26)) (w.alloc (.cells #[.int .u64 k, .int .i64 p] 26)).heap.size 2 (some ⟨w.heap.size, 0, none⟩) 1 (vCells [(k, p)]) :=
  ⟨rfl, fun _ => ⟨_, 0, rfl, by simp, fun j u hu => by
    rw [(Bk.new w _ _).cell]
    simpa [vCells] using hu⟩⟩
theorem two_sl (w : World) (k p k2 p2 : Int) : Sl (w.alloc (.cells #[.int .u64 k, .int .i64 p, .int .u64 k2, .int .i64 p2] 26)) (w.alloc (.cells #[.int .u64 k, .int .i64 p, .int .u64 k2, .int .i64 p2] 26)).heap.size 2 (some ⟨w.heap.size, 0, none⟩) 2 (vCells [(k, p), (k2, p2)]) :=
  ⟨rfl, fun _ => ⟨_, 0, rfl, by simp, fun j u hu => by
    rw [(Bk.new w _ _).cell]
    simpa [vCells] using hu⟩⟩
theorem alloc_bel (w : World) (cs : Array Value) (t : TypeId) : Below w.heap.size w (w.alloc (.cells cs t)) := (by (first | assumption | (repeat (first | exact Below.refl _ _ | assumption | apply Below.drew | apply below_drewN | (refine Below.setCell ?_ (by (try simp) <;> omega) _) | (refine Below.alloc ?_ (by (try simp) <;> omega) _)))))
theorem UpP.from {W W' : World} {r : VL × Int} {e : Ending} {w' : World} (hb : Below W.heap.size W W') (h : UpP W'.heap.size r W' e w') : UpP W.heap.size r W e w' := by
  obtain ⟨v, he, ho, hl⟩ := h
  exact ⟨v, he, vown_low ho hb.size, hb.trans (hl.mono hb.size)⟩
theorem upd_one (A : Option Addr) (l : VL) (n c : Nat) (hn : l.length = n) (hl : n ≤ 1000) (k p : Int) (W : World) (hA : Sl W W.heap.size 2 A l.length (vCells l)) :
    Calls Try.prog 9 #[.slice A n c, .slice (some ⟨W.heap.size, 0, none⟩) 1 1] (W.alloc (.cells #[.int .u64 k, .int .i64 p] 26)) (UpP W.heap.size (updateV l [(k, p)]) W) := by
  subst hn
  exact (update_any A _ l [(k, p)] c 1 _ hl (by simp) ((hA.below (alloc_bel W _ _)).more (alloc_bel W _ _).size) (one_sl W k p)).mono fun e w' h => UpP.from (alloc_bel W _ _) h
theorem upd_two (A : Option Addr) (l : VL) (n c : Nat) (hn : l.length = n) (hl : n ≤ 1000) (k p k2 p2 : Int) (W : World) (hA : Sl W W.heap.size 2 A l.length (vCells l)) :
    Calls Try.prog 9 #[.slice A n c, .slice (some ⟨W.heap.size, 0, none⟩) 2 2] (W.alloc (.cells #[.int .u64 k, .int .i64 p, .int .u64 k2, .int .i64 p2] 26)) (UpP W.heap.size (updateV l [(k, p), (k2, p2)]) W) := by
  subst hn
  exact (update_any A _ l [(k, p), (k2, p2)] c 2 _ hl (by simp) ((hA.below (alloc_bel W _ _)).more (alloc_bel W _ _).size) (two_sl W k p k2 p2)).mono fun e w' h => UpP.from (alloc_bel W _ _) h
theorem same_at (A A' : Option Addr) (l m : VL) (n n' c c' : Nat) (hn : l.length = n) (hn' : m.length = n') (hl : n ≤ 1000) (hl' : n' ≤ 1000) (W : World) (hA : Sl W W.heap.size 2 A l.length (vCells l)) (hA' : Sl W W.heap.size 2 A' m.length (vCells m)) :
    Calls Try.prog 11 #[.slice A n c, .slice A' n' c'] W fun e w' => e = .returned (.bool (decide (l = m))) ∧ Below W.heap.size W w' := by
  subst hn hn'
  exact sameset_any A A' l m c c' W (by omega) (by omega) hA hA'
theorem upd_len {l cs a : VL} (h : updateV l cs = (a, 0)) : a.length ≤ 64 := right_len (updateV_ok h).2.2

/-- What is known while a law goes on: the argument list, two validators boxed. -/
structure Ctx (w W : World) (A : Option Addr) (l : VL) (n1 n2 : Nat) (k p k2 p2 : Int) : Prop where
  bel : Below w.heap.size w W
  sl : Sl W W.heap.size 2 A l.length (vCells l)
  k1 : Bk W n1 26 #[.int .u64 k, .int .i64 p]
  k2 : Bk W n2 26 #[.int .u64 k2, .int .i64 p2]
theorem Ctx.step {w W W' : World} {A : Option Addr} {l : VL} {n1 n2 : Nat} {k p k2 p2 : Int} (h : Ctx w W A l n1 n2 k p k2 p2) (hb : Below W.heap.size W W') : Ctx w W' A l n1 n2 k p k2 p2 :=
  ⟨h.bel.trans (hb.mono h.bel.size), (h.sl.below hb).more hb.size, h.k1.below hb h.k1.lt, h.k2.below hb h.k2.lt⟩
theorem Ctx.new {w W1 W2 : World} {A : Option Addr} {l : VL} {n1 n2 : Nat} {k p k2 p2 : Int} (hA : Sl w w.heap.size 2 A l.length (vCells l)) (h1 : w.alloc (.cells #[.int .u64 k, .int .i64 p] 26) = W1) (e1 : w.heap.size = n1) (h2 : W1.alloc (.cells #[.int .u64 k2, .int .i64 p2] 26) = W2) (e2 : W1.heap.size = n2) : Ctx w W2 A l n1 n2 k p k2 p2 := by
  subst h1 h2 e1 e2
  have b1 := alloc_bel w #[.int .u64 k, .int .i64 p] 26
  have b2 := alloc_bel (w.alloc (.cells #[.int .u64 k, .int .i64 p] 26)) #[.int .u64 k2, .int .i64 p2] 26
  have b3 := b1.trans (b2.mono b1.size)
  exact ⟨b3, (hA.below b3).more b3.size, (Bk.new w _ _).below b2 (Bk.new w _ _).lt, Bk.new _ _ _⟩
theorem Ctx.one {w W1 : World} {A : Option Addr} {l : VL} {n1 : Nat} {k p : Int} (hA : Sl w w.heap.size 2 A l.length (vCells l)) (h1 : w.alloc (.cells #[.int .u64 k, .int .i64 p] 26) = W1) (e1 : w.heap.size = n1) : Ctx w W1 A l n1 n1 k p k p := by
  subst h1 e1
  have b1 := alloc_bel w #[.int .u64 k, .int .i64 p] 26
  exact ⟨b1, (hA.below b1).more b1.size, Bk.new _ _ _, Bk.new _ _ _⟩
/-- A row of one's own as a slice. -/
theorem own_at {W : World} {B : Nat} {v : Value} {a : VL} (h : VOwn W B v a) : ∃ A c, v = .slice A a.length c ∧ Sl W W.heap.size 2 A a.length (vCells a) := by
  obtain ⟨A, c, hv, _, _, hs⟩ := own_sl h
  exact ⟨A, c, hv, hs⟩
theorem sl_bl {W W' : World} {A : Option Addr} {a : VL} (h : Sl W W.heap.size 2 A a.length (vCells a)) (hb : Below W.heap.size W W') : Sl W' W'.heap.size 2 A a.length (vCells a) := (h.below hb).more hb.size
end Go.Proofs.Ytlocapkofmpebaa

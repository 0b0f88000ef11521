/- What this text proves: rows of bytes of one's own beside a digest under way. The conditions are the facts' own premises. -/
import Derived.Test.YtdeikpifflkabaaDoorBlakeDg
import Derived.Laws.OwnMore
namespace Go.Proofs.YtdeikpifflkabaaDoor
open Go.RowKit
set_option linter.unusedVariables false
set_option linter.unusedSimpArgs false

/-- A slice of bytes as a value: its address, its room, its bytes. -/
abbrev Part := Option Addr × Nat × List UInt8
def slv (p : Part) : Value := .slice p.1 p.2.2.length p.2.1
def Part.good (w : World) (p : Part) : Prop := p.2.2.length ≤ p.2.1 ∧ p.2.1 ≤ maxLen ∧ Sl w w.heap.size 1 p.1 p.2.2.length (bts p.2.2)

theorem own_mv {W W' : World} {base n g : Nat} {e : TypeId} {v : Value} {xs : List Value} (ho : W.ownsRow base e 1 v n xs) (hm : Moves (fun k _ => k = g) W W') (hne : some g ≠ v.ownBlock) : W'.ownsRow base e 1 v n xs := by
  refine ⟨ho.1, ?_⟩
  rcases ho.2 with hn | ⟨g', cap, cur, rfl, hb, hg, rest⟩
  · exact .inl hn
  · exact .inr ⟨g', cap, cur, rfl, hb, hm.block g' _ hg (fun e => hne (by simp [Value.ownBlock, e])), rest⟩
theorem own_bl {W W' : World} {base n : Nat} {e : TypeId} {v : Value} {xs : List Value} (ho : W.ownsRow base e 1 v n xs) (hb : Below W.heap.size W W') : W'.ownsRow base e 1 v n xs :=
  own_mv (g := W.heap.size) ho (Moves.below _ hb (Nat.le_refl _)) (fun e => by have := (own_cells ho e.symm).2.1; omega)
theorem own_src {W : World} {base n gs : Nat} {A : Option Addr} {c : Nat} {l : List UInt8} {cs : Array Value} (ho : W.ownsRow base 5 1 (.slice A n c) n (bts l)) (hg : Bk W gs 100 cs) : Src W gs A l := fun hl => by
  have hn : n = l.length := by have := ho.1; rw [bts_len] at this; omega
  rcases ho.2 with ⟨h, h'⟩ | ⟨g, cap, cur, h, hb, hh, hnc, hcm, hcs, ht⟩
  · omega
  · injection h with h1 _ h3
    subst h1
    subst h3
    refine ⟨g, 0, rfl, fun e => ?_, fun j u hu => ?_⟩
    · subst e; exact Bk.ne_ (t := 5) hh hg (by decide) rfl
    · have := ho.cellAt j (by have := (List.getElem?_eq_some_iff.1 hu).1; rw [bts_len] at this; omega)
      rw [Nat.zero_add, this, hu]
theorem DgAt.grown {w W W' : World} {gs : Nat} {l : List UInt8} {row : Option Nat} (h : DgAt w gs l W) (hg : W.grownBy W' row) (hne : some gs ≠ row) (hr : ∀ k, row = some k → w.heap.size ≤ k) : DgAt w gs l W' :=
  ⟨h.s.grown hg hne, h.b.grown hg h.b.size hr, h.ge⟩
theorem kept_ne {u v : Value} (h : ∀ x, u.ownBlock = some x → v.ownBlock ≠ some x) : v.ownBlock = none ∨ v.ownBlock ≠ u.ownBlock := by
  cases hv : v.ownBlock with
  | none => exact .inl rfl
  | some y => exact .inr fun e => h y e.symm hv
theorem own_sl_at {w : World} {base n c : Nat} {e : TypeId} {A : Option Addr} {xs : List Value} (h : w.ownsRow base e 1 (.slice A n c) n xs) : Sl w w.heap.size 1 A n xs := by
  obtain ⟨A', c', e, _, _, hs⟩ := own_sl h
  injection e with e1 e2 e3
  subst e1
  exact hs
theorem xor255 (y : UInt8) : bits .xor .u8 (y.toNat : Int) 255 = ((UInt8.ofNat (255 - y.toNat)).toNat : Int) := by
  have : ∀ c : Fin 256, bits .xor .u8 (c.val : Int) 255 = ((UInt8.ofNat (255 - c.val)).toNat : Int) := by decide +kernel
  exact this ⟨y.toNat, y.toNat_lt⟩
theorem run_nsame {o : Oper} {a : Act} {w : World} (x y : Operand) (ty : TypeId) (ho : o.op = .binOp .neq 26 x y ty) (p : List UInt8) (hx : a.eval x = .agg (bts p).toArray) (hy : a.eval y = .agg (bts p).toArray) (hp : p.length = 32) :
    (execOp a.eval o).run Tryd.prog w = .ok (.value (.bool false)) w := by
  have h := run_bytes_neq (P := Tryd.prog) (w := w) 26 5 ty x y ho 32 Tryd.underlying26 Tryd.underlying5 hs_u8' hm_hash p p hx hy hp hp
  rwa [show (!(p == p)) = false from by simp] at h

end Go.Proofs.YtdeikpifflkabaaDoor

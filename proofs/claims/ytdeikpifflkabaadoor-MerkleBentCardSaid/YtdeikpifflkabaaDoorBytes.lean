/- What this text proves: how a slice of bytes reads that lies in a block of bytes ('Rd'), and what an append onto a slice without spare room gives. The conditions are the laws' own premises. -/
import Derived.Test.YtdeikpifflkabaaDoorBase
import Derived.Test.YtdeikpifflkabaaDoorSeq
import Derived.ArgAppend
import Derived.Maps.AppendAt
import Derived.RegionTactic
namespace Go.Proofs.YtdeikpifflkabaaDoor
open Go.RowKit
set_option linter.unusedVariables false
set_option linter.unusedSimpArgs false

/-- Bytes as cells. -/
def bts (xs : List UInt8) : List Value := xs.map fun x => .int .u8 (x.toNat : Int)
theorem bts_len (xs : List UInt8) : (bts xs).length = xs.length := by simp [bts]
theorem bts_app (xs ys : List UInt8) : bts (xs ++ ys) = bts xs ++ bts ys := by simp [bts]
theorem bts_take (xs : List UInt8) (k : Nat) : (bts xs).take k = bts (xs.take k) := by simp [bts, List.map_take]
theorem bts_drop (xs : List UInt8) (k : Nat) : (bts xs).drop k = bts (xs.drop k) := by simp [bts, List.map_drop]
theorem bts_get {xs : List UInt8} {k : Nat} {u : Value} (h : (bts xs)[k]? = some u) : ∃ x, u = .int .u8 (x.toNat : Int) ∧ xs[k]? = some x := by
  simp only [bts, List.getElem?_map, Option.map_eq_some_iff] at h
  obtain ⟨x, hx, rfl⟩ := h
  exact ⟨x, rfl, hx⟩
theorem bts_at {xs : List UInt8} {k : Nat} {x : UInt8} (h : xs[k]? = some x) : (bts xs)[k]? = some (.int .u8 (x.toNat : Int)) := by simp [bts, h]
theorem bts_one {xs : List UInt8} : ∀ u ∈ bts xs, u.oneCell' = true := by
  intro u hu
  simp only [bts, List.mem_map] at hu
  obtain ⟨x, _, rfl⟩ := hu
  rfl

/-- The slice value v reads as cs (one cell an element), in a block of element type e that is not frozen. -/
def Rd (e : TypeId) (w : World) (v : Value) (cs : List Value) : Prop :=
  ∃ A c, v = .slice A cs.length c ∧ cs.length ≤ c ∧ c ≤ maxLen ∧ (0 < cs.length → ∃ b off cur, A = some ⟨b, off, none⟩ ∧ w.heap[b]? = some (.cells cur e (0, 0)) ∧ ∀ j u, cs[j]? = some u → cur[off + j]? = some u)

section
variable {e : TypeId} {w w' : World} {v : Value} {cs : List Value}
theorem Rd.nil (e : TypeId) (w : World) : Rd e w (.slice none 0 0) [] := ⟨none, 0, rfl, Nat.le_refl _, by simp [maxLen], fun h => absurd h (by simp)⟩
theorem Rd.sl (h : Rd e w v cs) : ∃ A c, v = .slice A cs.length c ∧ cs.length ≤ c ∧ c ≤ maxLen ∧ Sl w w.heap.size 1 A cs.length cs := by
  obtain ⟨A, c, hv, h1, h2, h3⟩ := h
  refine ⟨A, c, hv, h1, h2, by simp, fun hn => ?_⟩
  obtain ⟨b, off, cur, hA, hb, hc⟩ := h3 hn
  refine ⟨b, off, hA, (Array.getElem?_eq_some_iff.1 hb).1, fun j u hu => ?_⟩
  rw [cell_of_row w b (off + j) cur e (0, 0) hb]
  exact hc j u hu
theorem Rd.moves {X : Nat → Obj → Prop} (h : Rd e w v cs) (hm : Moves X w w') (hx : ∀ k cur, k < w.heap.size → w.heap[k]? = some (.cells cur e (0, 0)) → ¬ X k (.cells cur e (0, 0))) : Rd e w' v cs := by
  obtain ⟨A, c, hv, h1, h2, h3⟩ := h
  refine ⟨A, c, hv, h1, h2, fun hn => ?_⟩
  obtain ⟨b, off, cur, hA, hb, hc⟩ := h3 hn
  exact ⟨b, off, cur, hA, hm.block b _ hb (hx b cur (Array.getElem?_eq_some_iff.1 hb).1 hb), hc⟩
theorem Rd.below (h : Rd e w v cs) {B : Nat} (hb : Below B w w') (hB : w.heap.size ≤ B) : Rd e w' v cs :=
  h.moves (Moves.below (fun _ _ => False) hb hB) (fun _ _ _ _ h => h)
theorem Rd.of_own {base n : Nat} (h : w.ownsRow base e 1 v n cs) : Rd e w v cs := by
  have hl : cs.length = n := by simpa using h.1
  subst hl
  rcases h.2 with ⟨rfl, h0⟩ | ⟨g, cap, cur, rfl, hb, hg, hn, hc, hs, ht⟩
  · have : cs = [] := List.eq_nil_of_length_eq_zero h0
    subst this
    exact Rd.nil e w
  · refine ⟨_, cap, rfl, hn, hc, fun _ => ⟨g, 0, cur, rfl, hg, fun j u hu => ?_⟩⟩
    rw [← ht, List.getElem?_take] at hu
    split at hu
    · simpa using hu
    · cases hu
/-- The first k: 's[:k]'. -/
theorem Rd.take (h : Rd e w v cs) {k : Nat} (hk : k ≤ cs.length) : ∃ A c, v = .slice A cs.length c ∧ Rd e w (.slice A k c) (cs.take k) := by
  obtain ⟨A, c, hv, h1, h2, h3⟩ := h
  refine ⟨A, c, hv, A, c, by rw [List.length_take, Nat.min_eq_left hk], by rw [List.length_take, Nat.min_eq_left hk]; omega, h2, fun hn => ?_⟩
  obtain ⟨b, off, cur, hA, hb, hc⟩ := h3 (by rw [List.length_take] at hn; omega)
  refine ⟨b, off, cur, hA, hb, fun j u hu => hc j u ?_⟩
  rw [List.getElem?_take] at hu
  split at hu
  · exact hu
  · cases hu
end

/-- The slice v, where it has elements, lies at N or behind. -/
def Fr (N : Nat) (v : Value) : Prop := ∀ b off n c, v = .slice (some ⟨b, off, none⟩) n c → 0 < n → N ≤ b
theorem Fr.nil (N : Nat) (n c : Nat) : Fr N (.slice none n c) := fun _ _ _ _ h => by cases h
theorem Fr.zero (N : Nat) (A : Option Addr) (c : Nat) : Fr N (.slice A 0 c) := fun _ _ _ _ h hn => by cases h; omega
theorem Fr.less {N N' : Nat} {v : Value} (h : Fr N v) (hN : N' ≤ N) : Fr N' v := fun b off n c e hn => Nat.le_trans hN (h b off n c e hn)
theorem Fr.of_own {w : World} {base sz n : Nat} {e : TypeId} {v : Value} {xs : List Value} (h : w.ownsRow base e sz v n xs) : Fr base v := by
  rcases h.2 with ⟨rfl, _⟩ | ⟨g, cap, cur, rfl, hb, _⟩
  · exact Fr.nil _ _ _
  · intro b off n c e _
    cases e
    exact hb
/-- Bytes stay where their own block does. -/
theorem Rd.off {e : TypeId} {w w' : World} {v : Value} {cs : List Value} {X : Nat → Obj → Prop} (h : Rd e w v cs) (hm : Moves X w w') (hx : ∀ b off n c, v = .slice (some ⟨b, off, none⟩) n c → 0 < n → ∀ o, ¬ X b o) : Rd e w' v cs := by
  obtain ⟨A, c, rfl, h1, h2, h3⟩ := h
  refine ⟨A, c, rfl, h1, h2, fun hn => ?_⟩
  obtain ⟨b, off, cur, rfl, hb, hc⟩ := h3 hn
  exact ⟨b, off, cur, rfl, hm.block b _ hb (hx b off _ c rfl hn _), hc⟩

section
variable {P : Program}
theorem Sl.addr {w : World} {B sz n : Nat} {A : Option Addr} {cs : List Value} (h : Sl w B sz A n cs) (hn : 0 < n) : ∃ a, A = some a ∧ a.block < B ∧ ∀ j u, cs[j]? = some u → w.cell? (a.add j) = some u := by
  obtain ⟨b, off, rfl, hb, hc⟩ := h.2 hn
  refine ⟨_, rfl, hb, fun j u hu => ?_⟩
  have := hc j u hu
  unfold Addr.add
  split
  · rename_i h0; subst h0; exact this
  · exact this

/-- append onto a slice without spare room. -/
theorem run_append_clip (w : World) (t ty e : TypeId) (i : TypeInfo) (z : Value) (bytes : Nat) (ht : P.underlying t = some (.slice e)) (hi : P.info? e = some i) (hz : i.zero = some z)
    (hsize : i.size = 1) (hby : i.bytes = bytes) (hzs : z.cells.size = 1) (A : Option Addr) (n cap : Nat) (olds : List Value) (hA : Sl w w.heap.size 1 A n olds) (hcap : cap = n) (hcm : n ≤ maxLen)
    (A' : Option Addr) (m c : Nat) (news : List Value) (hA' : Sl w w.heap.size 1 A' m news) (h1 : ∀ u ∈ news, u.oneCell' = true) (h63 : n + m ≤ maxLen) (hbytes : (n + m) * bytes ≤ 140737488355328) :
    ∃ v' w', (Builtin.append_ #[t, t] ty #[.slice A n cap, .slice A' m c]).run P w = .ok v' w' ∧ w.grownBy w' none ∧ (∃ A2 c2, v' = .slice A2 (n + m) c2 ∧ n + m ≤ c2 ∧ c2 ≤ maxLen) ∧
      (m = 0 → v' = .slice A n n ∧ w' = w) ∧ (0 < m → w'.ownsRow w.heap.size e 1 v' (n + m) (olds ++ news)) := by
  subst hcap
  rcases Nat.eq_zero_or_pos m with h0 | h0
  · subst h0
    refine ⟨.slice A cap cap, w, ?_, World.grownBy.refl w _, ⟨A, cap, rfl, by omega, hcm⟩, fun _ => ⟨rfl, rfl⟩, fun h => absurd h (by omega)⟩
    have hf : (Builtin.firstCells 1 0 (.slice A' 0 c)).run P w = .ok #[] w := by
      cases A' with
      | none => exact run_firstCells_none w _ _ _ _
      | some a => exact run_firstCells_some w 1 0 a 0 c [] (by simp) (by simp)
    cases A with
    | none => simp [Builtin.append_, run_underlying ht, sizeOf, typeInfo, hi, hsize, Builtin.lenOf, hf]
    | some a => simp [Builtin.append_, run_underlying ht, sizeOf, typeInfo, hi, hsize, Builtin.lenOf, hf, storeCells]
  · obtain ⟨a', rfl, _, hc'⟩ := hA'.addr h0
    rcases Nat.eq_zero_or_pos cap with hn | hn
    · subst hn
      have ho : olds = [] := List.eq_nil_of_length_eq_zero (by simpa using hA.1)
      subst ho
      cases A with
      | none =>
        obtain ⟨v', w', hrun, r1, r2, _⟩ := run_append_own (P := P) w w.heap.size t ty e i z 1 bytes ht hi hz hsize hby hzs (by decide) (.slice none 0 0) 0 [] (World.ownsRow_nil w _ e 1) a' m c news hA'.1 hc' h1 h63 hbytes (Nat.le_refl _)
        obtain ⟨A2, c2, hv, q1, q2, _⟩ := own_sl r1
        exact ⟨v', w', hrun, r2, ⟨A2, c2, hv, q1, q2⟩, fun h => absurd h (by omega), fun _ => r1⟩
      | some b =>
        obtain ⟨v', w', hrun, r1, r2⟩ := run_append_arg_grows (P := P) w t ty e i z 1 bytes ht hi hz hsize hby hzs (by decide) b 0 0 [] (by simp) (by simp) a' m c news hA'.1 hc' (by omega) h63 hbytes
        obtain ⟨A2, c2, hv, q1, q2, _⟩ := own_sl r1
        exact ⟨v', w', hrun, r2, ⟨A2, c2, hv, q1, q2⟩, fun h => absurd h (by omega), fun _ => r1⟩
    · obtain ⟨b, rfl, _, hc⟩ := hA.addr hn
      obtain ⟨v', w', hrun, r1, r2⟩ := run_append_arg_grows (P := P) w t ty e i z 1 bytes ht hi hz hsize hby hzs (by decide) b cap cap olds hA.1 hc a' m c news hA'.1 hc' (by omega) h63 hbytes
      obtain ⟨A2, c2, hv, q1, q2, _⟩ := own_sl r1
      exact ⟨v', w', hrun, r2, ⟨A2, c2, hv, q1, q2⟩, fun h => absurd h (by omega), fun _ => r1⟩

/-- The same, in bytes: what comes of it reads as both. -/
theorem clip_rd {e : TypeId} {w w' : World} {A : Option Addr} {n c m : Nat} {olds news : List Value} {v v' : Value} (hv : v = .slice A n c) (hr : Rd e w v olds) (hg : w.grownBy w' none) (hm : news.length = m)
    (h0 : m = 0 → v' = .slice A n n ∧ w' = w) (h1 : 0 < m → w'.ownsRow w.heap.size e 1 v' (n + m) (olds ++ news)) (hn : olds.length = n) : Rd e w' v' (olds ++ news) := by
  rcases Nat.eq_zero_or_pos m with h | h
  · obtain ⟨rfl, rfl⟩ := h0 h
    have : news = [] := List.eq_nil_of_length_eq_zero (by omega)
    subst this
    rw [List.append_nil]
    obtain ⟨A2, c2, hv2, q1, q2, q3⟩ := hr
    rw [hv] at hv2
    cases hv2
    exact ⟨A, olds.length, rfl, Nat.le_refl _, by omega, q3⟩
  · exact Rd.of_own (h1 h)

theorem step_append_clip {ops : Array Oper} {o : Oper} {a : Act} {K : Act → World → Prop} {Q : Exit → Act → World → Prop} {E : Prop} (w : World) (hgd : o.guard = none) (s x : Operand) (t : TypeId)
    (ho : o.op = .call { callee := .builtin .append, args := #[s, x], argTypes := #[t, t] })
    (e : TypeId) (i : TypeInfo) (z : Value) (bytes : Nat) (ht : P.underlying t = some (.slice e)) (hi : P.info? e = some i) (hz : i.zero = some z)
    (hsize : i.size = 1) (hby : i.bytes = bytes) (hzs : z.cells.size = 1) (A : Option Addr) (n cap : Nat) (olds : List Value) (hs : a.eval s = .slice A n cap) (hA : Sl w w.heap.size 1 A n olds) (hcap : cap = n) (hcm : n ≤ maxLen)
    (A' : Option Addr) (m c : Nat) (news : List Value) (hx : a.eval x = .slice A' m c) (hA' : Sl w w.heap.size 1 A' m news) (h1 : ∀ u ∈ news, u.oneCell' = true) (h63 : n + m ≤ maxLen) (hbytes : (n + m) * bytes ≤ 140737488355328)
    (h : ∀ A2 c2 w', w.grownBy w' none → n + m ≤ c2 → c2 ≤ maxLen → (m = 0 → (.slice A2 (n + m) c2 : Value) = .slice A n n ∧ w' = w) → (0 < m → w'.ownsRow w.heap.size e 1 (.slice A2 (n + m) c2) (n + m) (olds ++ news)) → K (a.put o.dst (.slice A2 (n + m) c2)) w') :
    if Region.wanted o (yielded ops a.tmps) = true then Oper.wp P o a w K Q else E := by
  have hw : Region.wanted o (yielded ops a.tmps) = true := by simp [Region.wanted, hgd]
  rw [if_pos hw]
  obtain ⟨v', w', hrun, r1, ⟨A2, c2, rfl, q1, q2⟩, r2, r3⟩ := run_append_clip (P := P) w t o.type e i z bytes ht hi hz hsize hby hzs A n cap olds hA hcap hcm A' m c news hA' h1 h63 hbytes
  unfold Oper.wp execOp
  simp only [ho, resolve, invoke, builtin, Sem.run_bind, Sem.run_pure, Result.andThen_ok, List.map_toArray, List.map_cons, List.map_nil, hs, hx, hrun]
  exact h A2 c2 w' r1 q1 q2 r2 r3

theorem wpList_append_clip {ops : Array Oper} {rest : List Oper} {o : Oper} {a : Act} {Q : Exit → Act → World → Prop} (w : World) (hgd : o.guard = none) (s x : Operand) (t : TypeId)
    (ho : o.op = .call { callee := .builtin .append, args := #[s, x], argTypes := #[t, t] })
    (e : TypeId) (i : TypeInfo) (z : Value) (bytes : Nat) (ht : P.underlying t = some (.slice e)) (hi : P.info? e = some i) (hz : i.zero = some z)
    (hsize : i.size = 1) (hby : i.bytes = bytes) (hzs : z.cells.size = 1) (A : Option Addr) (n cap : Nat) (olds : List Value) (hs : a.eval s = .slice A n cap) (hA : Sl w w.heap.size 1 A n olds) (hcap : cap = n) (hcm : n ≤ maxLen)
    (A' : Option Addr) (m c : Nat) (news : List Value) (hx : a.eval x = .slice A' m c) (hA' : Sl w w.heap.size 1 A' m news) (h1 : ∀ u ∈ news, u.oneCell' = true) (h63 : n + m ≤ maxLen) (hbytes : (n + m) * bytes ≤ 140737488355328)
    (h : ∀ A2 c2 w', w.grownBy w' none → n + m ≤ c2 → c2 ≤ maxLen → (m = 0 → (.slice A2 (n + m) c2 : Value) = .slice A n n ∧ w' = w) → (0 < m → w'.ownsRow w.heap.size e 1 (.slice A2 (n + m) c2) (n + m) (olds ++ news)) → wpList P ops Q rest (a.put o.dst (.slice A2 (n + m) c2)) w') :
    wpList P ops Q (o :: rest) a w :=
  wpList_plain hgd fun _ hK => by
    have := step_append_clip (P := P) (ops := ops) (K := _) (Q := Q) (E := False) w hgd s x t ho e i z bytes ht hi hz hsize hby hzs A n cap olds hs hA hcap hcm A' m c news hx hA' h1 h63 hbytes (fun A2 c2 w' r1 q1 q2 r2 r3 => hK _ _ (h A2 c2 w' r1 q1 q2 r2 r3))
    rwa [if_pos (by simp [Region.wanted, hgd])] at this
end
end Go.Proofs.YtdeikpifflkabaaDoor

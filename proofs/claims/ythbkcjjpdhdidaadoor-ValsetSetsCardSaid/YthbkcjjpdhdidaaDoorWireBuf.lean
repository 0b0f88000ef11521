/- What this text proves: how the bytes of a wire.Writer grow: the two ways of (*bytes.Buffer).grow that a writer takes, with the row that comes of it named and all other memory as it was. The conditions are how the writer lies in memory. -/
import Derived.Test.YthbkcjjpdhdidaaDoorShelf
import Derived.Test.YthbkcjjpdhdidaaDoorBase
import Derived.Test.YthbkcjjpdhdidaaDoorBytes
import Derived.Lib.ByteType
import Derived.Lib.BufferAt
import Derived.Lib.BufferOwn
import Derived.Lib.Walk
import Derived.Lib.BufferMore
import Derived.Lib.BufferGrow
import Derived.Lib.BufferWrite
import Derived.Lib.Hide
import Derived.Laws.MakeOwn
import Derived.WalkKit
import Derived.RegionTactic
import Derived.Deep.RegionWith
import Derived.Shelf.RegionOpenPlain
import Derived.Deep.Draws
import Derived.Deep.Cut
import Derived.BigCall
import Derived.BigGuard
namespace Go.Proofs.YthbkcjjpdhdidaaDoor
open Go.RowKit Go.Shelf
set_option linter.unusedVariables false
set_option linter.unusedSimpArgs false

theorem wu8_info : (Tryd.prog.info? 5).map (fun i => (i.zero, i.size, i.bytes)) = some (some (.int .u8 0), 1, 1) := by kernel_rfl

/-- All blocks but b and the row that b's buffer has stay as they are, and become no row of it. -/
def KB (b : Nat) (w w' : World) : Prop := ∀ k o v, w.heap[k]? = some o → k ≠ b → w.cell? ⟨b, 0, none⟩ = some v → v.ownBlock ≠ some k → w'.heap[k]? = some o ∧ ∃ v', w'.cell? ⟨b, 0, none⟩ = some v' ∧ v'.ownBlock ≠ some k
theorem KB.refl (b : Nat) (w : World) : KB b w w := fun k o v h1 _ h3 h4 => ⟨h1, v, h3, h4⟩
theorem KB.trans {b : Nat} {w w1 w2 : World} (h : KB b w w1) (h' : KB b w1 w2) : KB b w w2 := fun k o v h1 h2 h3 h4 => by
  obtain ⟨h5, v', h6, h7⟩ := h k o v h1 h2 h3 h4
  exact h' k o v' h5 h2 h6 h7
theorem KB.grown {b : Nat} {w w' : World} {v v' : Value} (hg : w.grownBy w' (some b)) (hv : w.cell? ⟨b, 0, none⟩ = some v) (hv' : w'.cell? ⟨b, 0, none⟩ = some v') (hn : v'.ownBlock = v.ownBlock ∨ ∃ k, v'.ownBlock = some k ∧ w.heap.size ≤ k) : KB b w w' := fun k o u h1 h2 h3 h4 => by
  rw [hv] at h3
  obtain rfl := Option.some.inj h3
  have hk := (Array.getElem?_eq_some_iff.1 h1).1
  refine ⟨(hg.block k hk (fun e => h2 (Option.some.inj e))).trans h1, v', hv', ?_⟩
  rcases hn with e | ⟨j, e, hj⟩
  · rw [e]; exact h4
  · rw [e]; intro he; have := Option.some.inj he; omega
theorem KB.same {b : Nat} {w w' : World} (hv : w'.cell? ⟨b, 0, none⟩ = w.cell? ⟨b, 0, none⟩) (hg : w.grownBy w' (some b)) : KB b w w' := fun k o u h1 h2 h3 h4 =>
  ⟨(hg.block k (Array.getElem?_eq_some_iff.1 h1).1 (fun e => h2 (Option.some.inj e))).trans h1, u, hv.trans h3, h4⟩
theorem KB.poke {b g : Nat} {w : World} {v : Value} (hv : w.cell? ⟨b, 0, none⟩ = some v) (ho : v.ownBlock = some g) (hgb : g ≠ b) (l : Nat) (u : Value) : KB b w (w.setCell ⟨g, l, none⟩ u) := fun k o v2 h1 h2 h3 h4 => by
  rw [hv] at h3
  obtain rfl := Option.some.inj h3
  have hkg : k ≠ g := fun e => h4 (by rw [ho, e])
  refine ⟨(Below.heap_setCell _ _ _ _ hkg).trans h1, v, ?_, h4⟩
  exact (World.cell?_of_block (a := ⟨b, 0, none⟩) (Below.heap_setCell w ⟨g, l, none⟩ u b (Ne.symm hgb))).trans hv
theorem KB.row {b g : Nat} {w : World} {v : Value} (hv : w.cell? ⟨b, 0, none⟩ = some v) (ho : v.ownBlock = some g) (hgb : g ≠ b) (cs : Array Value) : KB b w (w.setRow g cs) := fun k o v2 h1 h2 h3 h4 => by
  rw [hv] at h3
  obtain rfl := Option.some.inj h3
  have hkg : k ≠ g := fun e => h4 (by rw [ho, e])
  refine ⟨(setRow_other _ _ _ _ hkg).trans h1, v, ?_, h4⟩
  exact (World.cell?_of_block (a := ⟨b, 0, none⟩) (setRow_other w g b cs (Ne.symm hgb))).trans hv

/-- Block b holds a writer whose buffer is the slice v and holds bs; R: its other cells. -/
def Bf (w : World) (B b : Nat) (R : Nat → Option Value) (v : Value) (bs : List Value) : Prop :=
  B ≤ b ∧ ∃ lr, LibA.Three w b 0 81 R v (.int .i64 0) (.int .i8 lr) ∧ w.ownsRow B 5 1 v bs.length bs ∧ v.ownBlock ≠ some b ∧ (bs = [] → v = .slice none 0 0)
theorem Bf.is {w : World} {B b : Nat} {R : Nat → Option Value} {v : Value} {bs : List Value} (h : Bf w B b R v bs) : LibA.IsBuffer 81 R 5 B b 0 bs w := by
  obtain ⟨hB, lr, h3, ho, hn, _⟩ := h
  exact ⟨hB, v, lr, h3, ho, hn⟩
/-- Room was made for n cells behind the first l. -/
structure Room (w : World) (B b : Nat) (R : Nat → Option Value) (g l n cap : Nat) (cur : Array Value) (bs : List Value) : Prop where
  three : ∃ lr, LibA.Three w b 0 81 R (.slice (some ⟨g, 0, none⟩) (l + n) cap) (.int .i64 0) (.int .i8 lr)
  hBg : B ≤ g
  hg : w.heap[g]? = some (.cells cur 5 (0, 0))
  hnc : l + n ≤ cap
  hcm : cap ≤ maxLen
  hcs : cur.size = cap
  htk : cur.toList.take l = bs
  hgb : g ≠ b
def RoomP (w : World) (B b : Nat) (R : Nat → Option Value) (l n : Nat) (bs : List Value) (w' : World) : Prop := ∃ g cap cur, Room w' B b R g l n cap cur bs ∧ Below B w w' ∧ KB b w w'

set_option maxHeartbeats 6400000 in
set_option maxRecDepth 100000 in
theorem grow_nil (R : Nat → Option Value) (B b n : Nat) (lr : Int) (w : World) (hB : B ≤ b) (hBw : B ≤ w.heap.size) (hbk : LibA.Three w b 0 81 R (.slice none 0 0) (.int .i64 0) (.int .i8 lr)) (hn : 1 ≤ n) (h64 : n ≤ 64) :
    Calls Tryd.prog 54 #[.pointer (some ⟨b, 0, none⟩), .int .i64 n] w fun e w' => e = .returned (.int .i64 0) ∧ RoomP w B b R 0 n [] w' := by
  obtain ⟨i0, hi, hz0, hz1, hz2⟩ := info_parts wu8_info
  obtain ⟨M, hM⟩ : ∃ M, M = madeCells (Value.int .u8 0).cells ((64 : Int).toNat * i0.size) := ⟨_, rfl⟩
  have hMs : M.size = 64 := by rw [hM, size_madeCells, hz1]; rfl
  have hmk : ∀ W : World, (Instr.makeSlice 42 (.int .i64 (n : Int)) (.int .i64 64)).run Tryd.prog W = .ok (.slice (some ⟨W.heap.size, 0, none⟩) n 64) (W.alloc (.cells M 5)) := fun W => by
    have h := run_makeSlice (P := Tryd.prog) W 42 5 i0 (.int .u8 0) Tryd.underlying42 hi hz0 .i64 .i64 (n : Int) 64 (by omega) (by omega) (by rw [hz1]; decide) (by rw [hz2]; decide) (by decide)
    rw [← hM] at h
    simpa using h
  clear hM
  have hIs : LibA.IsBuffer 81 R 5 B b 0 [] w := ⟨hB, _, _, hbk, World.ownsRow_nil _ _ _ _, by simp [Value.ownBlock]⟩
  have hnil : ∀ W, (binOp .eql 42 (.slice none 0 0) (.slice none 0 0)).run Tryd.prog W = .ok (.bool true) W := fun W => Lib.run_eql_slice_nil_nil W _ _ Tryd.underlying42
  have c0w : w.cell? ⟨b, 0, none⟩ = some (.slice none 0 0) := hbk.c0
  have HC := Lib.hid c0w
  clear c0w
  go_enter Tryd.func54, Tryd.ntmps54
  go_wp2_with fail
  with_reducible refine (Tryd.Buffer_Len_at 81 R B b 0 [] _ hIs).mono ?_
  rintro e W0 ⟨rfl, k, hW0⟩
  have hbk0 : LibA.Three W0 b 0 81 R (.slice none 0 0) (.int .i64 0) (.int .i8 lr) := by rw [hW0]; exact hbk
  have c0 : W0.cell? ⟨b, 0, none⟩ = some (.slice none 0 0) := hbk0.c0
  have c1 : W0.cell? ⟨b, 1, none⟩ = some (.int .i64 0) := hbk0.c1
  have f0 : W0.frozen? ⟨b, 0, none⟩ = false := hbk0.f 0
  have f1 : W0.frozen? ⟨b, 1, none⟩ = false := hbk0.f 1
  have hbW0 := hbk0.lt
  have c0a : ∀ o, (W0.alloc o).cell? ⟨b, 0, none⟩ = some (.slice none 0 0) := fun o => (World.cell?_of_block (a := ⟨b, 0, none⟩) (Below.heap_alloc W0 o b hbW0)).trans c0
  have f0a : ∀ o, (W0.alloc o).frozen? ⟨b, 0, none⟩ = false := fun o => (World.frozen?_of_block (a := ⟨b, 0, none⟩) (Below.heap_alloc W0 o b hbW0)).trans f0
  have HW0 := Lib.hid hW0
  clear hW0 hIs
  go_wp2_with fail
  with_reducible refine (Tryd.Buffer_tryGrow_none_at b 0 _ 0 0 n _ c0 (Nat.le_refl _) (Nat.zero_le _) (by omega)).mono ?_
  rintro e w' ⟨rfl, rfl⟩
  go_wp2_with fail
  go_ret
  refine ⟨rfl, ?_⟩
  have hb0 : Below B w w' := by rw [HW0.out]; exact ⟨rfl, rfl, rfl, Nat.le_refl _, fun _ _ => rfl⟩
  have hg0 : w.grownBy w' (some b) := by rw [HW0.out]; exact ⟨rfl, rfl, rfl, Nat.le_refl _, fun _ _ _ => rfl⟩
  have hsz0 : w'.heap.size = w.heap.size := by rw [HW0.out]; rfl
  obtain ⟨S, hS⟩ : ∃ S, Value.slice (some ⟨w'.heap.size, 0, none⟩) (0 + n) 64 = S := ⟨_, rfl⟩
  have hS' : Value.slice (some ⟨w'.heap.size, 0, none⟩) n 64 = S := by rw [← hS, Nat.zero_add]
  rw [hS']
  have hsz : (w'.setCell ⟨b, 0, none⟩ S).heap.size = w'.heap.size := by simp [World.setCell]
  have h3 : LibA.Three ((w'.setCell ⟨b, 0, none⟩ S).alloc (.cells M 5)) b 0 81 R S (.int .i64 0) (.int .i8 lr) := (hbk0.set0 S).of_heap (Below.heap_alloc _ _ b (by rw [hsz]; exact hbW0))
  have hN : ((w'.setCell ⟨b, 0, none⟩ S).alloc (.cells M 5)).heap[w'.heap.size]? = some (.cells M 5 (0, 0)) := by
    have h := heap_alloc_new (w'.setCell ⟨b, 0, none⟩ S) (.cells M 5)
    rw [hsz] at h
    exact h
  refine ⟨w'.heap.size, 64, M, ⟨⟨lr, by rw [hS]; exact h3⟩, by omega, hN, by omega, by unfold maxLen; omega, hMs, by simp, by omega⟩, (hb0.setCell (p := ⟨b, 0, none⟩) hB S).alloc (by rw [hsz]; omega) _, ?_⟩
  exact KB.grown (Lib.grownBy_allocR (Lib.grownBy_setB hg0 0 _) _) HC.out h3.c0 (.inr ⟨w'.heap.size, by rw [← hS]; rfl, by omega⟩)

theorem grow_room {B b N l n cap2 : Nat} {R : Nat → Option Value} {lr : Int} {w w2 : World} {v v0 : Value} {cells : Array Value} {bs : List Value} (hB : B ≤ b) (hbk2 : LibA.Three w2 b 0 81 R v0 (.int .i64 0) (.int .i8 lr)) (hN : w2.heap[N]? = some (.cells cells 5 (0, 0))) (hBN : B ≤ N) (hNb : N ≠ b)
    (hcsz : cells.size = cap2) (htk : cells.toList.take l = bs) (hcap2 : l + n ≤ cap2) (hcm2 : cap2 ≤ maxLen) (hbel : Below B w w2) (hgb : w.grownBy w2 (some b)) (hv : w.cell? ⟨b, 0, none⟩ = some v) (hNs : w.heap.size ≤ N) (v1 : Value) :
    RoomP w B b R l n bs (((w2.setCell ⟨b, 0, none⟩ v1).setCell ⟨b, 1, none⟩ (.int .i64 0)).setCell ⟨b, 0, none⟩ (.slice (some ⟨N, 0, none⟩) (l + n) cap2)) := by
  have h3 := (((hbk2.set0 v1).set1 (.int .i64 0)).set0 (.slice (some ⟨N, 0, none⟩) (l + n) cap2))
  have hNf : (((w2.setCell ⟨b, 0, none⟩ v1).setCell ⟨b, 0 + 1, none⟩ (.int .i64 0)).setCell ⟨b, 0, none⟩ (.slice (some ⟨N, 0, none⟩) (l + n) cap2)).heap[N]? = some (.cells cells 5 (0, 0)) := by
    rw [Below.heap_setCell _ _ _ _ hNb, Below.heap_setCell _ _ _ _ hNb, Below.heap_setCell _ _ _ _ hNb]
    exact hN
  exact ⟨N, cap2, cells, ⟨⟨lr, h3⟩, hBN, hNf, hcap2, hcm2, hcsz, htk, hNb⟩, ((hbel.setCell (p := ⟨b, 0, none⟩) hB _).setCell (p := ⟨b, 1, none⟩) hB _).setCell (p := ⟨b, 0, none⟩) hB _,
    KB.grown (Lib.grownBy_setB (Lib.grownBy_setB (Lib.grownBy_setB hgb 0 _) 1 _) 0 _) hv h3.c0 (.inr ⟨N, rfl, hNs⟩)⟩

set_option maxHeartbeats 12800000 in
set_option maxRecDepth 100000 in
theorem grow_row (R : Nat → Option Value) (B b g l cap n : Nat) (lr : Int) (cur : Array Value) (bs : List Value) (w : World) (hB : B ≤ b) (hBw : B ≤ w.heap.size)
    (hbk : LibA.Three w b 0 81 R (.slice (some ⟨g, 0, none⟩) l cap) (.int .i64 0) (.int .i8 lr))
    (hl : bs.length = l) (hBg : B ≤ g) (hg : w.heap[g]? = some (.cells cur 5 (0, 0))) (hlc : l ≤ cap) (hcm : cap ≤ maxLen) (hcs : cur.size = cap) (htake : cur.toList.take l = bs) (hgb : g ≠ b)
    (h1 : ∀ v ∈ bs, v.oneCell' = true) (hl0 : l ≠ 0) (hn : 1 ≤ n) (hroom : cap - l < n) (hlim : l + n ≤ 140737488355328) :
    Calls Tryd.prog 54 #[.pointer (some ⟨b, 0, none⟩), .int .i64 n] w fun e w' => e = .returned (.int .i64 l) ∧ RoomP w B b R l n bs w' := by
  have hIs : LibA.IsBuffer 81 R 5 B b 0 bs w := ⟨hB, _, _, hbk, ⟨by rw [hl, Nat.mul_one], .inr ⟨g, cap, cur, by rw [hl], hBg, hg, by omega, hcm, by omega, by rw [hl, Nat.mul_one]; exact htake⟩⟩, by simp [Value.ownBlock]; exact hgb⟩
  have hnil : ∀ W, (binOp .eql 42 (.slice (some ⟨g, 0, none⟩) l cap) (.slice none 0 0)).run Tryd.prog W = .ok (.bool false) W := fun W => Lib.run_eql_slice_some_nil W _ _ _ Tryd.underlying42
  have mixed : Tryd.prog.follows .mixedOrders = true := by kernel_rfl
  have HC := Lib.hid (show w.cell? ⟨b, 0, none⟩ = some _ from hbk.c0)
  have hLen := Tryd.Buffer_Len_at 81 R B b 0 bs _ hIs
  rw [hl] at hLen
  go_enter Tryd.func54, Tryd.ntmps54
  go_wp2_with fail
  with_reducible refine hLen.mono ?_
  rintro e W0 ⟨rfl, k, hW0⟩
  have hbk0 : LibA.Three W0 b 0 81 R (.slice (some ⟨g, 0, none⟩) l cap) (.int .i64 0) (.int .i8 lr) := by rw [hW0]; exact hbk
  have hg0 : W0.heap[g]? = some (.cells cur 5 (0, 0)) := by rw [hW0]; exact hg
  have c0 : W0.cell? ⟨b, 0, none⟩ = some (.slice (some ⟨g, 0, none⟩) l cap) := hbk0.c0
  have c1 : W0.cell? ⟨b, 1, none⟩ = some (.int .i64 0) := hbk0.c1
  have f0 : W0.frozen? ⟨b, 0, none⟩ = false := hbk0.f 0
  have f1 : W0.frozen? ⟨b, 1, none⟩ = false := hbk0.f 1
  have HW0 := Lib.hid hW0
  clear hW0 hIs hLen
  have hcm' := hcm
  unfold maxLen at hcm'
  go_wp2_with fail
  with_reducible refine (Tryd.Buffer_tryGrow_none_at b 0 _ l cap n _ c0 hlc hcm hroom).mono ?_
  rintro e w' ⟨rfl, rfl⟩
  go_upto_region 15 with fail
  have hc2 : cap ≤ 140737488355328 := by omega
  have h1' : ∀ v ∈ cur.toList.take l, v.oneCell' = true := by rw [htake]; exact h1
  have hbW := hbk0.lt
  have hwn : IntKind.i64.wrap (n : Int) = n := by rw [IntKind.wrap_i64]; omega
  go_region_with_o (
      go_at_call 57
      refine (Tryd.bytes_growSlice_row g l cap n cur _ ?_ hcs hlc hn hlim hc2 h1').mono ?_
      exact hg0
      rintro e w2 ⟨cap2, cells, rfl, hN, hcsz, htk, hcap2, hcm2, hbel⟩
      have hbk2 : LibA.Three w2 b 0 81 R (.slice (some ⟨g, 0, none⟩) l cap) (.int .i64 0) (.int .i8 lr) := hbk0.of_heap (hbel.block b hbW)
      have d0 : w2.cell? ⟨b, 0, none⟩ = some (.slice (some ⟨g, 0, none⟩) l cap) := hbk2.c0
      have d1 : w2.cell? ⟨b, 1, none⟩ = some (.int .i64 0) := hbk2.c1
      have e0 : w2.frozen? ⟨b, 0, none⟩ = false := hbk2.f 0
      have e1 : w2.frozen? ⟨b, 1, none⟩ = false := hbk2.f 1)
  all_goals (
    go_wp2_with fail
    go_ret
    refine ⟨rfl, ?_⟩
    have hsz0 : w'.heap.size = w.heap.size := by rw [HW0.out]; rfl
    have hb0 : Below B w w'.drew := by rw [HW0.out]; exact ⟨rfl, rfl, rfl, Nat.le_refl _, fun _ _ => rfl⟩
    have hg2 : w.grownBy w2 (some b) := Lib.grownBy_below (w := w'.drew) (by rw [HW0.out]; exact ⟨rfl, rfl, rfl, Nat.le_refl _, fun _ _ _ => rfl⟩) hbel
    exact grow_room hB hbk2 hN (by show B ≤ w'.heap.size; omega) (by show w'.heap.size ≠ b; omega) hcsz (htk.trans htake) hcap2 hcm2 (hb0.trans (hbel.mono (by show B ≤ w'.heap.size; omega))) hg2 HC.out (by show w.heap.size ≤ w'.heap.size; omega) _)

theorem Bf.cases {w : World} {B b : Nat} {R : Nat → Option Value} {v : Value} {bs : List Value} (h : Bf w B b R v bs) : B ≤ b ∧ ∃ lr, (bs = [] ∧ v = .slice none 0 0 ∧ LibA.Three w b 0 81 R (.slice none 0 0) (.int .i64 0) (.int .i8 lr)) ∨
    (bs ≠ [] ∧ ∃ g cap cur, v = .slice (some ⟨g, 0, none⟩) bs.length cap ∧ LibA.Three w b 0 81 R (.slice (some ⟨g, 0, none⟩) bs.length cap) (.int .i64 0) (.int .i8 lr) ∧ B ≤ g ∧ w.heap[g]? = some (.cells cur 5 (0, 0)) ∧ bs.length ≤ cap ∧ cap ≤ maxLen ∧ cur.size = cap ∧ cur.toList.take bs.length = bs ∧ g ≠ b) := by
  obtain ⟨hB, lr, h3, ho, hn, h0⟩ := h
  refine ⟨hB, lr, ?_⟩
  by_cases hb : bs = []
  · left
    have := h0 hb
    subst this
    exact ⟨hb, rfl, h3⟩
  · right
    refine ⟨hb, ?_⟩
    rcases ho.2 with ⟨rfl, hz⟩ | ⟨g, cap, cur, rfl, hBg, hg, hnc, hcm, hcs, htk⟩
    · exact absurd (List.eq_nil_of_length_eq_zero hz) hb
    · exact ⟨g, cap, cur, rfl, h3, hBg, hg, hnc, hcm, by simpa using hcs, by simpa using htk, fun e => hn (by simp [Value.ownBlock, e])⟩

/-- (*Buffer).tryGrowByReslice, by a writer. -/
theorem tg_any (R : Nat → Option Value) (B b n : Nat) (v : Value) (bs : List Value) (w : World) (h : Bf w B b R v bs) (hn : 1 ≤ n ∨ bs ≠ []) :
    Calls Tryd.prog 53 #[.pointer (some ⟨b, 0, none⟩), .int .i64 n] w fun e w' => (e = .returned (.tuple #[.int .i64 bs.length, .bool true]) ∧ RoomP w B b R bs.length n bs w') ∨ (e = .returned (.tuple #[.int .i64 0, .bool false]) ∧ w' = w ∧ LibA.NoRoom b 0 n w) := by
  obtain ⟨hB, lr, ⟨hb, hv, h3⟩ | ⟨hb, g, cap, cur, hv, h3, hBg, hg, hnc, hcm, hcs, htk, hgb⟩⟩ := h.cases
  · refine (Tryd.Buffer_tryGrow_none_at b 0 none 0 0 n w h3.c0 (Nat.le_refl _) (Nat.zero_le _) (by rcases hn with h | h <;> first | omega | exact absurd hb h)).mono ?_
    rintro e w' ⟨rfl, rfl⟩
    exact .inr ⟨rfl, rfl, _, _, _, h3.c0, by rcases hn with h | h <;> first | omega | exact absurd hb h⟩
  · by_cases hr : n ≤ cap - bs.length
    · refine (Tryd.Buffer_tryGrow_room_at b 0 (some ⟨g, 0, none⟩) bs.length cap n w h3.c0 (h3.f 0) hnc hcm hr).mono ?_
      rintro e w' ⟨rfl, rfl⟩
      have h3' := h3.set0 (.slice (some ⟨g, 0, none⟩) (bs.length + n) cap)
      exact .inl ⟨rfl, g, cap, cur, ⟨⟨lr, h3'⟩, hBg, by rw [Below.heap_setCell _ _ _ _ hgb]; exact hg, by omega, hcm, hcs, htk, hgb⟩, (Below.refl B w).setCell (p := ⟨b, 0, none⟩) hB _, KB.grown (Lib.grownBy_setCell w b 0 _) h3.c0 h3'.c0 (.inl rfl)⟩
    · refine (Tryd.Buffer_tryGrow_none_at b 0 (some ⟨g, 0, none⟩) bs.length cap n w h3.c0 hnc hcm (by omega)).mono ?_
      rintro e w' ⟨rfl, rfl⟩
      exact .inr ⟨rfl, rfl, _, _, _, h3.c0, by omega⟩

/-- (*Buffer).grow, by a writer whose bytes have no room. -/
theorem gr_any (R : Nat → Option Value) (B b n : Nat) (v : Value) (bs : List Value) (w : World) (h : Bf w B b R v bs) (hBw : B ≤ w.heap.size) (h1 : ∀ v ∈ bs, v.oneCell' = true) (hn : 1 ≤ n) (h64 : n ≤ 64 ∨ bs ≠ []) (hlim : bs.length + n ≤ 140737488355328) (hnr : LibA.NoRoom b 0 n w) :
    Calls Tryd.prog 54 #[.pointer (some ⟨b, 0, none⟩), .int .i64 n] w fun e w' => e = .returned (.int .i64 bs.length) ∧ RoomP w B b R bs.length n bs w' := by
  obtain ⟨ao, l0, cap0, hc0, hlt⟩ := hnr
  obtain ⟨hB, lr, ⟨hb, hv, h3⟩ | ⟨hb, g, cap, cur, hv, h3, hBg, hg, hnc, hcm, hcs, htk, hgb⟩⟩ := h.cases
  · subst hb
    exact grow_nil R B b n lr w hB hBw h3 hn (by rcases h64 with h | h <;> first | exact h | exact absurd rfl h)
  · have := h3.c0
    rw [hc0] at this
    simp only [Option.some.injEq, Value.slice.injEq] at this
    obtain ⟨_, rfl, rfl⟩ := this
    exact grow_row R B b g bs.length cap0 n lr cur bs w hB hBw h3 rfl hBg hg hnc hcm hcs htk hgb h1 (fun e => hb (List.eq_nil_of_length_eq_zero e)) hn hlt hlim
end Go.Proofs.YthbkcjjpdhdidaaDoor

/- What this text proves: the contract of the law WireNil. The condition is that the argument is a field. -/
import Derived.Test.YtclnpglnomfjkaaDoorWireRd
import Derived.Test.YtclnpglnomfjkaaDoorWireAlive
import Derived.Test.YtclnpglnomfjkaaDoorWireWrites
namespace Go.Proofs.YtclnpglnomfjkaaDoor
open Go.RowKit Go.Shelf
set_option linter.unusedVariables false
set_option linter.unusedSimpArgs false

theorem made_hash : Tryd.prog.built 29 [] = some (bts zB).toArray := by kernel_rfl
theorem hsz8 (w : World) : (sizeOf 5).run Tryd.prog w = .ok 1 w := Tryd.sizeOf5 w
theorem hm_hash : Tryd.prog.eqGuardType Tryd.prog.depth 29 = false := by kernel_rfl
theorem FdAt.lt {w : World} {b off : Nat} {f : Fd} (h : FdAt w b off f) : b < w.heap.size := World.block_lt_of_cell? w _ h.kind
theorem fd_box {w : World} {g : Nat} {t : TypeId} {f : Fd} (h : Bk w g t f.cells.toArray) (hf : f.good) : FdAt w g 0 f := by
  have at_ : ∀ j v, f.cells[j]? = some v → w.cell? ⟨g, 0 + j, none⟩ = some v := fun j v hv => by
    rw [h.cell, Nat.zero_add, List.getElem?_toArray]; exact hv
  refine ⟨at_ 0 _ rfl, at_ 1 _ rfl, at_ 2 _ rfl, fun j v hj => ?_, at_ 35 _ ?_⟩
  · have hj32 : j < 32 := by have := (List.getElem?_eq_some_iff.1 hj).1; rw [bts_len, hf.1] at this; exact this
    rw [Nat.add_assoc]
    refine at_ (3 + j) v ?_
    simp only [Fd.cells, Nat.add_comm 3 j, List.getElem?_cons_succ]
    rw [List.getElem?_append_left (by rw [bts_len, hf.1]; exact hj32)]
    exact hj
  · simp only [Fd.cells, List.getElem?_cons_succ]
    rw [List.getElem?_append_right (by rw [bts_len, hf.1]; omega), bts_len, hf.1]
    rfl

set_option maxRecDepth 100000 in
set_option maxHeartbeats 4000000 in
theorem wnil_any (f : Fd) (hf : f.good) (w : World) :
    Calls Tryd.prog 8 #[.agg f.cells.toArray] w fun e w' => e = .returned (.bool true) ∧ Below w.heap.size w w' := by
  have hzh := zero_hash
  obtain ⟨n0, hn0⟩ : ∃ n0, w.heap.size = n0 := ⟨_, rfl⟩
  obtain ⟨W, hW⟩ : ∃ W, w.alloc (.cells f.cells.toArray 31) = W := ⟨_, rfl⟩
  have hbel : Below w.heap.size w W := by rw [← hW]; exact (by (first | assumption | (repeat (first | exact Below.refl _ _ | assumption | apply Below.drew | apply below_drewN | (refine Below.setCell ?_ (by (try simp) <;> omega) _) | (refine Below.alloc ?_ (by (try simp) <;> omega) _)))))
  have hk : Bk W n0 31 f.cells.toArray := by rw [← hW, ← hn0]; exact Bk.new w _ _
  have hfa := fd_box hk hf
  have HB := Lib.hid hbel
  have HF := Lib.hid hfa
  have HLT := Lib.hid hk.lt
  have HG := Lib.hid hf
  have h1 : W.cell? ⟨n0, 1, none⟩ = some (.int .i64 f.n) := hfa.n
  have h2 : W.cell? ⟨n0, 2, none⟩ = some (.int .u64 f.wd) := hfa.wd
  have h35 : W.cell? ⟨n0, 35, none⟩ = some (.string f.s) := hfa.s
  clear hbel hk hfa hf
  go_enter Tryd.func8, Tryd.ntmps8
  go_wp2_with fail
  with_reducible refine (wnumber_nil _ _).mono ?_
  rintro e w1 ⟨rfl, rfl⟩
  go_wp2_with fail
  with_reducible refine (wword_nil _ _).mono ?_
  rintro e w2 ⟨rfl, rfl⟩
  go_wp2_with (refine wpList_val (by rfl) (run_load_seg 29 _ (by with_reducible rfl) n0 3 (by rfl) _ HF.out.h 32 (by rw [bts_len]; exact HG.out.1) _ Tryd.underlying29 (by rfl) hhi) ?_)
  with_reducible refine (whash_nil _ _).mono ?_
  rintro e w3 ⟨rfl, hb3⟩
  have HB3 := Lib.hid (HB.out.trans (hb3.mono HB.out.size))
  have HF3 := Lib.hid (HF.out.below hb3 HLT.out)
  have h35 : w3.cell? ⟨n0, 35, none⟩ = some (.string f.s) := HF3.out.s
  clear hb3 h1 h2
  go_wp2_with fail
  with_reducible refine (wtext_nil _ _).mono ?_
  rintro e w4 ⟨rfl, rfl⟩
  go_wp2_with fail
  with_reducible refine (wbytes_nil _).mono ?_
  rintro e w5 ⟨rfl, rfl⟩
  go_wp2_with fail
  with_reducible refine (alive_any _).mono ?_
  rintro e w6 ⟨rfl, hb⟩
  have HB6 := Lib.hid (HB3.out.trans (hb.mono HB3.out.size))
  have hn6 : w6.cell? ⟨n0, 1, none⟩ = some (.int .i64 f.n) := (hb.cell (p := ⟨n0, 1, none⟩) (HF3.out.lt)).trans HF3.out.n
  have HLT6 := Lib.hid (HF3.out.lt)
  have HN6 := Lib.hid hn6
  clear hb h35 hn6
  go_wp2_with fail
  with_reducible refine (mNumber_nil _).mono ?_
  rintro e w7 ⟨rfl, hb⟩
  have HB7 := Lib.hid (HB6.out.trans (hb.mono HB6.out.size))
  have HS7 := Lib.hid hb
  clear hb
  go_wp2_with fail
  with_reducible refine (mWord_nil _).mono ?_
  rintro e w8 ⟨rfl, hb⟩
  have HB8 := Lib.hid (HB7.out.trans (hb.mono HB7.out.size))
  have HS8 := Lib.hid (HS7.out.trans (hb.mono HS7.out.size))
  clear hb
  go_wp2_with fail
  with_reducible refine (mHash_nil _).mono ?_
  rintro e w9 ⟨rfl, hb⟩
  have HB9 := Lib.hid (HB8.out.trans (hb.mono HB8.out.size))
  have HS9 := Lib.hid (HS8.out.trans (hb.mono HS8.out.size))
  clear hb
  have m1 : (bts zB).length = 32 := by rw [bts_len]; rfl
  go_wp2_with (first
    | (refine wpList_val (by rfl) (run_build_at 29 _ (by with_reducible rfl) (bts zB) (by exact made_hash)) ?_)
    | (refine wpList_val (by rfl) (run_bytes_eql 29 5 _ _ _ (by with_reducible rfl) 32 Tryd.underlying29 Tryd.underlying5 hsz8 hm_hash _ _ (by rfl) (by rfl) zB_len zB_len) ?_))
  with_reducible refine (mText_nil _).mono ?_
  rintro e w10 ⟨rfl, hb⟩
  have HB10 := Lib.hid (HB9.out.trans (hb.mono HB9.out.size))
  have HS10 := Lib.hid (HS9.out.trans (hb.mono HS9.out.size))
  have hn10 : w10.cell? ⟨n0, 1, none⟩ = some (.int .i64 f.n) := (HS10.out.cell (p := ⟨n0, 1, none⟩) (World.block_lt_of_cell? w6 _ HN6.out)).trans HN6.out
  clear hb
  go_wp2_with fail
  with_reducible refine (mCount_nil _ _).mono ?_
  rintro e w11 ⟨rfl, hb⟩
  have HB11 := Lib.hid (HB10.out.trans (hb.mono HB10.out.size))
  clear hb hn10
  go_wp2_with fail
  with_reducible refine (mEnd_nil _).mono ?_
  rintro e w12 ⟨rfl, rfl⟩
  go_wp2_with fail
  go_ret
  exact ⟨rfl, HB11.out⟩
end Go.Proofs.YtclnpglnomfjkaaDoor

/- What this text proves: the live question of layer 2, and how bytes of the call's own and a writer stay apart. The conditions are how they lie in memory. -/
import Derived.Test.YtclnpglnomfjkaaDoorWireRef
import Derived.Test.YtclnpglnomfjkaaDoorSame02
namespace Go.Proofs.YtclnpglnomfjkaaDoor
open Go.RowKit Go.Shelf
set_option linter.unusedVariables false
set_option linter.unusedSimpArgs false

/-- The row of v is none of the writer in block b. -/
def Sep (w : World) (b : Nat) (v : Value) : Prop := ∀ k, v.ownBlock = some k → k ≠ b ∧ ∃ u, w.cell? ⟨b, 0, none⟩ = some u ∧ u.ownBlock ≠ some k
theorem Own8.kb {w w' : World} {B b : Nat} {v : Value} {l : List UInt8} (h : Own8 w B v l) (hs : Sep w b v) (hk : KB b w w') : Own8 w' B v l ∧ Sep w' b v := by
  rcases h.2 with ⟨rfl, h0⟩ | ⟨g, cap, cur, rfl, hBg, hg, rest⟩
  · exact ⟨⟨h.1, .inl ⟨rfl, h0⟩⟩, fun k hk => by simp [Value.ownBlock] at hk⟩
  · obtain ⟨h1, u, h2, h3⟩ := hs g rfl
    obtain ⟨h4, u', h5, h6⟩ := hk g _ u hg h1 h2 h3
    exact ⟨⟨h.1, .inr ⟨g, cap, cur, rfl, hBg, h4, rest⟩⟩, fun k hk => by
      have : g = k := by simpa [Value.ownBlock] using hk
      subst this
      exact ⟨h1, u', h5, h6⟩⟩
theorem Own8.old {w w' : World} {B : Nat} {v : Value} {l : List UInt8} (h : Own8 w B v l) (hb : Below w.heap.size w w') : Own8 w' B v l := by
  refine ⟨h.1, ?_⟩
  rcases h.2 with h | ⟨g, cap, cur, h1, h2, h3, rest⟩
  · exact .inl h
  · exact .inr ⟨g, cap, cur, h1, h2, (hb.block g (Lib.lt_of_heap h3)).trans h3, rest⟩
theorem Sep.old {w w' : World} {b : Nat} {v : Value} (h : Sep w b v) (hlt : b < w.heap.size) (hb : Below w.heap.size w w') : Sep w' b v := fun k hk => by
  obtain ⟨h1, u, h2, h3⟩ := h k hk
  exact ⟨h1, u, (hb.cell (p := ⟨b, 0, none⟩) hlt).trans h2, h3⟩
theorem Own8.fresh {w w' : World} {B b : Nat} {bad : Bool} {lw : List UInt8} {v : Value} {l : List UInt8} (h : Own8 w' w.heap.size v l) (hw : Wr w B b bad lw) (hb : Below w.heap.size w w') : Sep w' b v := fun k hk => by
  have h1 := (own_cells h hk).1
  obtain ⟨u, hw⟩ := hw
  have hlt := hw.ge.2
  refine ⟨by omega, u, (hb.cell (p := ⟨b, 0, none⟩) hlt).trans hw.cell0, fun e => ?_⟩
  obtain ⟨_, _, _, ho, _⟩ := hw
  have := (own_cells ho e).2.1
  omega
theorem sep_nil (w : World) (b : Nat) : Sep w b (.slice none 0 0) := fun k hk => by simp [Value.ownBlock] at hk
theorem Bf.grown {w w' : World} {B b : Nat} {R : Nat → Option Value} {v : Value} {bs : List Value} {row : Option Nat} (h : Bf w B b R v bs) (hg : w.grownBy w' row) (h1 : row ≠ some b) (h2 : v.ownBlock = none ∨ row ≠ v.ownBlock) : Bf w' B b R v bs := by
  have hlt := h.ge.2
  obtain ⟨hB, lr, h3, ho, hn, h0⟩ := h
  refine ⟨hB, lr, h3.of_heap (hg.block b hlt (Ne.symm h1)), ⟨ho.1, ?_⟩, hn, h0⟩
  rcases ho.2 with hn | ⟨g, cap, cur, hv, hbg, hgg, rest⟩
  · exact .inl hn
  · have e : v.ownBlock = some g := by rw [hv]; rfl
    exact .inr ⟨g, cap, cur, hv, hbg, (hg.block g (Lib.lt_of_heap hgg) (fun e' => by
      rcases h2 with h2 | h2
      · rw [e] at h2; cases h2
      · exact h2 (by rw [e, ← e']))).trans hgg, rest⟩
/-- An append onto bytes of the call's own leaves the writer alone. -/
theorem Wr.grown {w w' : World} {B b : Nat} {bad : Bool} {lw : List UInt8} {v v' : Value} (h : Wr w B b bad lw) (hs : Sep w b v) (hg : w.grownBy w' v.ownBlock) (hv : v'.ownBlock = v.ownBlock ∨ v'.ownBlock = some w.heap.size) : Wr w' B b bad lw ∧ Sep w' b v' := by
  obtain ⟨u, h⟩ := h
  have hlt := h.ge.2
  have hu : ∀ k, u.ownBlock = some k → k < w.heap.size := fun k e => by
    obtain ⟨_, _, _, ho, _⟩ := h
    exact (own_cells ho e).2.1
  have h' : Bf w' B b (Rw bad) u (bts lw) := h.grown hg (fun e => (hs b e).1 rfl) (by
    cases e : v.ownBlock with
    | none =>
      cases e2 : u.ownBlock with
      | none => exact .inl rfl
      | some k => exact .inr (by simp)
    | some k =>
      obtain ⟨_, u', h1, h2⟩ := hs k e
      rw [h.cell0] at h1
      obtain rfl := Option.some.inj h1
      exact .inr (Ne.symm h2))
  refine ⟨⟨u, h'⟩, fun k hk => ?_⟩
  rcases hv with e | e
  · rw [e] at hk
    obtain ⟨h1, u', h2, h3⟩ := hs k hk
    rw [h.cell0] at h2
    obtain rfl := Option.some.inj h2
    exact ⟨h1, u, h'.cell0, h3⟩
  · rw [e] at hk
    have : w.heap.size = k := Option.some.inj hk
    exact ⟨by omega, u, h'.cell0, fun e' => by have := hu k e'; omega⟩

theorem _root_.Go.RowKit.Below.size' {B : Nat} {w w' : World} (h : Below B w w') (hB : B ≤ w.heap.size) : B ≤ w'.heap.size := Nat.le_trans hB h.size

def liveB : List UInt8 := beB 2 2 ++ [104, 105] ++ beB 18446744073709551614 8
set_option maxRecDepth 100000 in
set_option maxHeartbeats 2000000 in
theorem alive_any (w : World) : Calls Tryd.prog 10 #[] w fun e w' => e = .returned (.bool true) ∧ Below w.heap.size w w' := by
  go_enter Tryd.func10, Tryd.ntmps10
  go_wp2_with fail
  with_reducible refine (newWriter_any w.heap.size w (Nat.le_refl _)).mono ?_
  rintro e w1 ⟨rfl, hw, hb⟩
  have HW := Lib.hid (wtext_any _ _ _ _ ⟨#[104, 105]⟩ w1 hw hb.size (by simp) (by decide))
  have HB := Lib.hid hb
  clear hw hb
  obtain ⟨b, hbn⟩ : ∃ b, w.heap.size = b := ⟨_, rfl⟩
  rw [hbn] at HW HB ⊢
  go_wp2_with fail
  with_reducible refine HW.out.mono ?_
  rintro e w2 ⟨rfl, hw, hb, _⟩
  have HB2 := Lib.hid (HB.out.trans hb)
  have HN := Lib.hid (wnumber_any b b false _ (-2) w2 hw (HB2.out.size' (Nat.le_of_eq hbn.symm)) (by decide))
  clear hw hb HW
  go_wp2_with fail
  with_reducible refine HN.out.mono ?_
  rintro e w3 ⟨rfl, hw, hb, _⟩
  have HB3 := Lib.hid (HB2.out.trans hb)
  have hwb := wbytes_any b b _ w3 hw (by decide)
  rw [show ([] : List UInt8) ++ beB (ByteArray.size ⟨#[104, 105]⟩) 2 ++ (⟨#[104, 105]⟩ : ByteArray).data.toList ++ beB ((-2 : Int) % 18446744073709551616).toNat 8 = liveB by decide +kernel] at hwb
  have HY := Lib.hid hwb
  have HSZ := Lib.hid (HB3.out.size' (Nat.le_of_eq hbn.symm))
  clear hw hb HN hwb
  go_wp2_with fail
  with_reducible refine HY.out.mono ?_
  rintro e w4 ⟨v, rfl, ho, hb⟩
  have HB4 := Lib.hid (HB3.out.trans (hb.mono HSZ.out))
  obtain ⟨A, c, rfl, hlc, hcm, hs⟩ := own_sl ho
  have h12 : liveB.length = 12 := by decide +kernel
  rw [h12] at hs hlc ⊢
  obtain ⟨g, off, rfl, hg, hc⟩ := hs.at_ (by omega)
  have c1 : w4.cell? ⟨g, off + 1, none⟩ = some (.int .u8 2) := hc 1 _ (bts_at (x := 2) (by decide +kernel))
  have c2 : w4.cell? ⟨g, off + 2, none⟩ = some (.int .u8 104) := hc 2 _ (bts_at (x := 104) (by decide +kernel))
  have c3 : w4.cell? ⟨g, off + 11, none⟩ = some (.int .u8 254) := hc 11 _ (bts_at (x := 254) (by decide +kernel))
  unfold maxLen at hcm
  clear hs hc ho HY h12
  have mixed : Tryd.prog.follows .mixedOrders = true := by kernel_rfl
  go_wp2_with fail
  go_ret
  exact ⟨rfl, by rw [hbn]; exact HB4.out⟩
end Go.Proofs.YtclnpglnomfjkaaDoor

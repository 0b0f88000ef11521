/- What this text proves: the contract of turns.Proposer, for any list of validators and any turn. No condition but that the list is no longer than a slice can be. -/
import Derived.Test.YtfnhlallfgfkkaaOrder
namespace Go.Proofs.Ytfnhlallfgfkkaa
open Go.RowKit Go.Shelf
set_option linter.unusedVariables false
set_option linter.unusedSimpArgs false
attribute [local go_sem] Oper.semAt_some wide_fn wide_depth

/-- Whose turn it is, and the error's number. -/
def propV (l : List (Int × Int)) (t : Int) : Int × Int :=
  if rightV l = false then (0, 71) else if t < 0 ∨ 4096 ≤ t then (0, 81) else (keyAt l t.toNat, 0)
theorem propV_some {l : List (Int × Int)} {t : Nat} (hr : rightV l = true) (h : t < 4096) : propV l t = (keyAt l t, 0) := by
  rw [propV, if_neg (by simp [hr]), if_neg (by omega), Int.toNat_natCast]

/-- What the loop in Proposer holds. -/
def PI (w : World) (t : Nat) (W : World) : Prop :=
  Bk W w.heap.size 3 #[.int .i64 t] ∧ (∃ a, Bk W (w.heap.size + 1) 30 #[a]) ∧ (∃ b, Bk W (w.heap.size + 2) 23 #[b]) ∧ Below w.heap.size w W
theorem PI.moves {w W W' : World} {t B : Nat} (h : PI w t W) (hB : w.heap.size + 2 < B) (hs : w.heap.size ≤ W.heap.size) (hm : Moves (fun k o => TX B k o ∨ (B ≤ k ∧ o.isCells = false)) W W') : PI w t W' := by
  obtain ⟨h1, ⟨a, h2⟩, ⟨b, h3⟩, h4⟩ := h
  refine ⟨hm.bk h1 ?_, ⟨a, hm.bk h2 ?_⟩, ⟨b, hm.bk h3 ?_⟩, h4.trans (hm.to_below hs ?_)⟩
  · rintro (⟨h, _⟩ | ⟨h, _⟩) <;> omega
  · rintro (⟨h, _⟩ | ⟨h, _⟩) <;> omega
  · rintro (⟨h, _⟩ | ⟨h, _⟩) <;> omega
  · rintro k o (⟨h, _⟩ | ⟨h, _⟩) <;> omega
def PIx (w : World) (l : List (Int × Int)) (t : Nat) (W : World) : Prop :=
  Bk W (w.heap.size + 1) 30 #[.int .u64 (keyAt l t)] ∧ Bk W (w.heap.size + 2) 23 #[.int .i64 0] ∧ Below w.heap.size w W
theorem PIx.moves {w W W' : World} {l : List (Int × Int)} {t B : Nat} (h : PIx w l t W) (hB : w.heap.size + 2 < B) (hs : w.heap.size ≤ W.heap.size) (hm : Moves (fun k o => TX B k o ∨ (B ≤ k ∧ o.isCells = false)) W W') : PIx w l t W' := by
  obtain ⟨h2, h3, h4⟩ := h
  refine ⟨hm.bk h2 ?_, hm.bk h3 ?_, h4.trans (hm.to_below hs ?_)⟩
  · rintro (⟨h, _⟩ | ⟨h, _⟩) <;> omega
  · rintro (⟨h, _⟩ | ⟨h, _⟩) <;> omega
  · rintro k o (⟨h, _⟩ | ⟨h, _⟩) <;> omega

set_option maxHeartbeats 4000000 in
theorem prop_some (A : Option Addr) (l : List (Int × Int)) (c t : Nat) (w : World) (hr : rightV l = true) (h2 : t < 4096) (hA : Sl w w.heap.size 2 A l.length (vCells l)) :
    Calls Try.prog 14 #[.slice A l.length c, .int .i64 t] w fun e w' =>
      e = .returned (.tuple #[.int .u64 (keyAt l t), .int .i64 0]) ∧ Below w.heap.size w w' := by
  have hlm : l.length ≤ maxLen := by have := (rightV_sum hr).2.2.2; unfold maxLen; omega
  have HC := Lib.hid (fun (w1 : World) (h : Below w.heap.size w w1) => right_any A l c w1 hlm ((hA.below h).more h.size))
  have HA := Lib.hid hA
  have HR := Lib.hid hr
  clear hA hlm hr
  refine (callsIn_wide (n := 9)).1 ?_
  refine callsIn_of_wp_marks Try.func14 rfl trivial ?_
  simp only [Try.ntmps14, List.size_toArray, List.length_cons, List.length_nil, Nat.reduceAdd, Nat.reduceSub, Array.replicate_succ, Array.replicate_zero, List.push_toArray, List.append_toArray, List.nil_append, List.cons_append]
  obtain ⟨w0, hw0⟩ : ∃ w0, ((w.alloc (.cells #[.int .i64 t] 3)).alloc (.cells #[.int .u64 0] 30)).alloc (.cells #[.int .i64 0] 23) = w0 := ⟨_, rfl⟩
  have hb0 : Below w.heap.size w w0 := by rw [← hw0]; exact (by (first | assumption | (repeat (first | exact Below.refl _ _ | assumption | apply Below.drew | apply below_drewN | (refine Below.setCell ?_ (by (try simp) <;> omega) _) | (refine Below.alloc ?_ (by (try simp) <;> omega) _)))))
  have hz0 : w0.heap.size = w.heap.size + 3 := by rw [← hw0]; simp
  have hn0 : Bk w0 w.heap.size 3 #[.int .i64 t] := by rw [← hw0]; exact ((Bk.new w _ _).alloc _).alloc _
  have ha0 : Bk w0 (w.heap.size + 1) 30 #[.int .u64 0] := by
    rw [← hw0]
    have := (Bk.new (w.alloc (.cells #[.int .i64 t] 3)) 30 #[.int .u64 0]).alloc (.cells #[.int .i64 0] 23)
    rwa [World.size_alloc] at this
  have hc0 : Bk w0 (w.heap.size + 2) 23 #[.int .i64 0] := by
    rw [← hw0]
    have := (Bk.new ((w.alloc (.cells #[.int .i64 t] 3)).alloc (.cells #[.int .u64 0] 30)) 23 #[.int .i64 0])
    rwa [World.size_alloc, World.size_alloc] at this
  have hcT := hn0.cell 0
  have HW0 := Lib.hid hw0
  clear hw0
  have H0 := Lib.hid (And.intro hn0 (And.intro ha0 (And.intro hc0 hb0)))
  clear hn0 ha0 hc0 hb0
  gi_wp2_with (first
    | (gi_at_call 13; rw [HW0.out]; refine (callsIn_wide.2 (HC.out _ H0.out.2.2.2)).mono ?_; rw [HR.out]; rintro e w1 ⟨rfl, hb1⟩; have hcN : w1.cell? ⟨w.heap.size, 0, none⟩ = some (.int .i64 t) := (hb1.cell (p := ⟨w.heap.size, 0, none⟩) (by simp; omega)).trans hcT)
    | (gi_at_call 20; refine (callsIn_wide.2 (turns_any A l.length c _)).mono ?_; rintro e w2 ⟨rfl, hw2⟩))
  obtain ⟨hn0, ha0, hc0, hb0⟩ := H0.out
  have hn1 := hn0.below hb1 (by omega)
  have ha1 := ha0.below hb1 (by omega)
  have hc1 := hc0.below hb1 (by omega)
  have hb1' := hb0.trans (hb1.mono (by omega))
  have hs1 := hb1.size
  have hbx : Bk w2 w1.heap.size 22 #[.slice A l.length c] := by rw [← hw2]; exact Bk.new w1 _ _
  have hn2 : Bk w2 w.heap.size 3 #[.int .i64 t] := by rw [← hw2]; exact hn1.alloc _
  have ha2 : Bk w2 (w.heap.size + 1) 30 #[.int .u64 0] := by rw [← hw2]; exact ha1.alloc _
  have hc2 : Bk w2 (w.heap.size + 2) 23 #[.int .i64 0] := by rw [← hw2]; exact hc1.alloc _
  have hb2 : Below w.heap.size w w2 := by rw [← hw2]; exact hb1'.alloc (by omega) _
  obtain ⟨BX, hBX⟩ : ∃ BX, w1.heap.size = BX := ⟨_, rfl⟩
  rw [hBX] at hbx hs1 ⊢
  have hA2 := HA.out.below hb2
  have hs2 := hb2.size
  have hbxl := hbx.lt
  have hPI : PI w t w2 := ⟨hn2, ⟨_, ha2⟩, ⟨_, hc2⟩, hb2⟩
  clear hw2 hcN hcT H0 HW0 hn0 ha0 hc0 hb0 hn1 ha1 hc1 hb1 hb1' hBX hn2 ha2 hc2
  refine range_J (gf := 23) (lb := #[.pointer (some ⟨BX, 0, none⟩)]) rfl (enters_of Try.func23 (by kernel_rfl) rfl)
    (turns_seq 8 w.heap.size (t + 1) (by omega) BX c A l HR.out w2 hs2 hbx hA2) (fun k o h => by obtain ⟨_, c, e, f, rfl, _⟩ := h; rfl)
    Leaves.trans (fun W l o o' hl ho hc => Leaves.putObj W l o o' (Nat.le_trans hs2 hl) ho hc) (fun _ => rfl)
    (fun pre W => pre.length < t + 1 ∧ PI w t W) (fun cd pre W => cd = .ret ∧ PIx w l t W)
    (fun pre W W' h hm => ⟨h.1, h.2.moves (by omega) h.2.2.2.2.size hm⟩) (fun cd pre W W' h hm => ⟨h.1, h.2.moves (by omega) h.2.2.2.size hm⟩)
    ⟨by simp, hPI⟩ (fun pre W h => h.1) ?round ?done ?stop
  case round =>
    intro L pre x W hL hi hsp
    simp only [tEnc]
    gi_wp2
    refine ⟨KeepsFrom.refl _ _, Leaves.refl _ _ _, hi, ?_⟩
    clear hi hbx hb2 hA2 hPI
    intro W2 hi hm hrec
    obtain ⟨hlN, hn, ⟨a, ha⟩, ⟨b, hc⟩, hB⟩ := hi
    obtain ⟨t', ht', hpx⟩ := hsp
    rw [List.range_succ] at hpx
    obtain ⟨hp1, hx1⟩ := List.append_inj' hpx rfl
    have hx2 : x = t' := by simpa using hx1
    subst hx2
    have hp2 : pre.length = x := by rw [hp1]; simp
    clear hpx hx1 hp1
    have hcn := hn.cell 0
    have hca := ha.cell 0
    have hfa := ha.frozen 0
    have hcc := (hc.far (p := ⟨w.heap.size + 1, 0, none⟩) (by simp) (.int .u64 (keyAt l x))).cell 0
    have hfc := (hc.far (p := ⟨w.heap.size + 1, 0, none⟩) (by simp) (.int .u64 (keyAt l x))).frozen 0
    by_cases hxt : x = t
    · subst hxt
      have e1 : ((x : Int) == (x : Int)) = true := by simp
      gi_wp2
      refine ⟨((KeepsOthers.setCell _ _ _).trans (KeepsOthers.setCell _ _ _)).from _, rfl, (ha.set_ 0 _).far (p := ⟨w.heap.size + 2, 0, none⟩) (by simp) _, (hc.far (p := ⟨w.heap.size + 1, 0, none⟩) (by simp) _).set_ 0 _, (hB.setCell (by simp) _).setCell (by simp; omega) _⟩
    · have e1 : ((x : Int) == (t : Int)) = false := by simp; omega
      gi_wp2
      exact ⟨KeepsFrom.refl _ _, Leaves.refl _ _ _, by simp; omega, hn, ⟨_, ha⟩, ⟨_, hc⟩, hB⟩
  case done => rintro D xs W _ h; exact h.elim
  case stop =>
    rintro D cd pre W hD hsp ⟨rfl, ha, hc, hB⟩ hK
    gi_wp2
    refine ⟨by simp, .inl ⟨_, _, rfl, run_takeDeferred hK, ?_⟩⟩
    have hm : Moves (fun k _ => w2.heap.size ≤ k) W (W.putObj D (.deferred none)) := Moves.putObj W D _ (fun o _ => hD)
    have ha' := (hm.bk ha (by omega)).cell 0
    have hc' := (hm.bk hc (by omega)).cell 0
    refine ⟨.tuple #[.int .u64 (keyAt l t), .int .i64 0], by simp [results, Try.results14, go_sem, ha', hc'], rfl, hB.trans (hm.to_below hB.size (fun k _ h => by omega))⟩

set_option maxHeartbeats 4000000 in
theorem prop_any (A : Option Addr) (l : List (Int × Int)) (c : Nat) (t : Int) (w : World) (hl : l.length ≤ maxLen) (hA : Sl w w.heap.size 2 A l.length (vCells l)) :
    Calls Try.prog 14 #[.slice A l.length c, .int .i64 t] w fun e w' =>
      e = .returned (.tuple #[.int .u64 (propV l t).1, .int .i64 (propV l t).2]) ∧ Below w.heap.size w w' := by
  by_cases hok : rightV l = true ∧ 0 ≤ t ∧ t < 4096
  · obtain ⟨hr, h1, h2⟩ := hok
    obtain ⟨N, rfl⟩ : ∃ N : Nat, t = N := ⟨t.toNat, by omega⟩
    refine (prop_some A l c N w hr (by omega) hA).mono ?_
    rw [propV_some hr (by omega)]
    exact fun _ _ h => h
  · obtain ⟨w0, hw0⟩ : ∃ w0, ((w.alloc (.cells #[.int .i64 t] 3)).alloc (.cells #[.int .u64 0] 30)).alloc (.cells #[.int .i64 0] 23) = w0 := ⟨_, rfl⟩
    have hb0 : Below w.heap.size w w0 := by rw [← hw0]; exact (by (first | assumption | (repeat (first | exact Below.refl _ _ | assumption | apply Below.drew | apply below_drewN | (refine Below.setCell ?_ (by (try simp) <;> omega) _) | (refine Below.alloc ?_ (by (try simp) <;> omega) _)))))
    have HC := Lib.hid (right_any A l c w0 hl ((hA.below hb0).more hb0.size))
    have HO := Lib.hid hok
    have hz0 : w0.heap.size = w.heap.size + 3 := by rw [← hw0]; simp
    have hn0 : Bk w0 w.heap.size 3 #[.int .i64 t] := by rw [← hw0]; exact ((Bk.new w _ _).alloc _).alloc _
    have ha0 : Bk w0 (w.heap.size + 1) 30 #[.int .u64 0] := by
      rw [← hw0]
      have := (Bk.new (w.alloc (.cells #[.int .i64 t] 3)) 30 #[.int .u64 0]).alloc (.cells #[.int .i64 0] 23)
      rwa [World.size_alloc] at this
    have hc0 : Bk w0 (w.heap.size + 2) 23 #[.int .i64 0] := by
      rw [← hw0]
      have := (Bk.new ((w.alloc (.cells #[.int .i64 t] 3)).alloc (.cells #[.int .u64 0] 30)) 23 #[.int .i64 0])
      rwa [World.size_alloc, World.size_alloc] at this
    have HW0 := Lib.hid hw0
    clear hA hok hl hw0
    have H0 := Lib.hid (fun (w1 : World) (hb1 : Below w0.heap.size w0 w1) => And.intro (hn0.below hb1 (by omega)) (And.intro (ha0.below hb1 (by omega)) (And.intro (hc0.below hb1 (by omega)) (hb0.trans (hb1.mono (by omega))))))
    clear hn0 ha0 hc0 hb0
    have hfin : ∀ (w1 : World) (x y : Int), Bk w1 (w.heap.size + 1) 30 #[.int .u64 0] → Bk w1 (w.heap.size + 2) 23 #[.int .i64 0] → Below w.heap.size w w1 →
        Bk ((w1.setCell ⟨w.heap.size + 1, 0, none⟩ (.int .u64 x)).setCell ⟨w.heap.size + 2, 0, none⟩ (.int .i64 y)) (w.heap.size + 1) 30 #[.int .u64 x] ∧
        Bk ((w1.setCell ⟨w.heap.size + 1, 0, none⟩ (.int .u64 x)).setCell ⟨w.heap.size + 2, 0, none⟩ (.int .i64 y)) (w.heap.size + 2) 23 #[.int .i64 y] ∧
        Below w.heap.size w ((w1.setCell ⟨w.heap.size + 1, 0, none⟩ (.int .u64 x)).setCell ⟨w.heap.size + 2, 0, none⟩ (.int .i64 y)) :=
      fun w1 x y ha hc hb => ⟨(ha.set_ 0 _).far (p := ⟨w.heap.size + 2, 0, none⟩) (by simp) _, (hc.far (p := ⟨w.heap.size + 1, 0, none⟩) (by simp) _).set_ 0 _, (hb.setCell (by simp) _).setCell (by simp) _⟩
    have HF := Lib.hid hfin
    clear hfin
    refine (callsIn_wide (n := 9)).1 ?_
    refine callsIn_of_wp_marks Try.func14 rfl trivial ?_
    simp only [Try.ntmps14, List.size_toArray, List.length_cons, List.length_nil, Nat.reduceAdd, Nat.reduceSub, Array.replicate_succ, Array.replicate_zero, List.push_toArray, List.append_toArray, List.nil_append, List.cons_append]
    cases hr : rightV l with
    | false =>
      have HP : Hid (propV l t = (0, 71)) := by rw [Hid, propV, if_pos hr]
      have HR := Lib.hid hr
      clear hr
      gi_wp2_with (gi_at_call 13; rw [HW0.out]; refine (callsIn_wide.2 HC.out).mono ?_; rw [HR.out]; rintro e w1 ⟨rfl, hb1⟩; obtain ⟨hn1, ha1, hc1, hb1'⟩ := H0.out w1 hb1; have g1 := ha1.cell 0; have g2 := ha1.frozen 0; have g3 := (hc1.far (p := ⟨w.heap.size + 1, 0, none⟩) (by simp) (.int .u64 0)).cell 0; have g4 := (hc1.far (p := ⟨w.heap.size + 1, 0, none⟩) (by simp) (.int .u64 0)).frozen 0)
      obtain ⟨f1, f2, f3⟩ := HF.out w1 0 71 ha1 hc1 hb1'
      have k1 := f1.cell 0
      have k2 := f2.cell 0
      exact ⟨.tuple #[.int .u64 0, .int .i64 71], by simp [results, Try.results14, go_sem, k1, k2], by rw [HP.out], f3⟩
    | true =>
      have hn : t < 0 ∨ 4096 ≤ t := by
        have := HO.out
        rw [hr] at this
        simp at this
        omega
      have HP : Hid (propV l t = (0, 81)) := by rw [Hid, propV, if_neg (by simp [hr]), if_pos hn]
      have HR := Lib.hid hr
      clear hr
      rcases hn with hn | hn
      · gi_wp2_with (gi_at_call 13; rw [HW0.out]; refine (callsIn_wide.2 HC.out).mono ?_; rw [HR.out]; rintro e w1 ⟨rfl, hb1⟩; obtain ⟨hn1, ha1, hc1, hb1'⟩ := H0.out w1 hb1; have g0 := hn1.cell 0; have g1 := ha1.cell 0; have g2 := ha1.frozen 0; have g3 := (hc1.far (p := ⟨w.heap.size + 1, 0, none⟩) (by simp) (.int .u64 0)).cell 0; have g4 := (hc1.far (p := ⟨w.heap.size + 1, 0, none⟩) (by simp) (.int .u64 0)).frozen 0)
        obtain ⟨f1, f2, f3⟩ := HF.out w1 0 81 ha1 hc1 hb1'
        have k1 := f1.cell 0
        have k2 := f2.cell 0
        exact ⟨.tuple #[.int .u64 0, .int .i64 81], by simp [results, Try.results14, go_sem, k1, k2], by rw [HP.out], f3⟩
      · have hn' : ¬ t < 0 := by omega
        gi_wp2_with (gi_at_call 13; rw [HW0.out]; refine (callsIn_wide.2 HC.out).mono ?_; rw [HR.out]; rintro e w1 ⟨rfl, hb1⟩; obtain ⟨hn1, ha1, hc1, hb1'⟩ := H0.out w1 hb1; have g0 := hn1.cell 0; have g1 := ha1.cell 0; have g2 := ha1.frozen 0; have g3 := (hc1.far (p := ⟨w.heap.size + 1, 0, none⟩) (by simp) (.int .u64 0)).cell 0; have g4 := (hc1.far (p := ⟨w.heap.size + 1, 0, none⟩) (by simp) (.int .u64 0)).frozen 0)
        obtain ⟨f1, f2, f3⟩ := HF.out w1 0 81 ha1 hc1 hb1'
        have k1 := f1.cell 0
        have k2 := f2.cell 0
        exact ⟨.tuple #[.int .u64 0, .int .i64 81], by simp [results, Try.results14, go_sem, k1, k2], by rw [HP.out], f3⟩
end Go.Proofs.Ytfnhlallfgfkkaa

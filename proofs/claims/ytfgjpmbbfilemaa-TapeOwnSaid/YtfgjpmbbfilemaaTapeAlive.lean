/- What this text proves: what the law's 'alive' answers of the tape, and what each method answers of no tape. The conditions are how the values lie in memory. -/
import Derived.Test.YtfgjpmbbfilemaaProg
import Derived.Test.YtfgjpmbbfilemaaTapeCut
import Derived.Test.YtfgjpmbbfilemaaSame02
import Derived.Lib.SlBytesConst
namespace Go.Proofs.Ytfgjpmbbfilemaa
open Go.RowKit
set_option linter.unusedVariables false
set_option linter.unusedSimpArgs false

theorem nil_append (A : Option Addr) (n c : Nat) (w : World) : Calls Try.prog 9 #[.pointer none, .slice A n c] w fun e w' => e = .returned (.int .i64 1) ∧ w = w' := by
  go_enter Try.func9, Try.ntmps9
  go_wp2
  go_ret
  exact ⟨rfl, rfl⟩
theorem nil_sync (w : World) : Calls Try.prog 17 #[.pointer none] w fun e w' => e = .returned (.int .i64 1) ∧ w = w' := by
  go_enter Try.func17, Try.ntmps17
  go_wp2
  go_ret
  exact ⟨rfl, rfl⟩
theorem nil_trim (n : Int) (w : World) : Calls Try.prog 20 #[.pointer none, .int .i64 n] w fun e w' => e = .returned (.int .i64 1) ∧ w = w' := by
  go_enter Try.func20, Try.ntmps20
  go_wp2
  go_ret
  exact ⟨rfl, rfl⟩
theorem nil_read (w : World) : Calls Try.prog 11 #[.pointer none] w fun e w' => e = .returned (.slice none 0 0) ∧ w = w' := by
  go_enter Try.func11, Try.ntmps11
  go_wp2
  go_ret
  exact ⟨rfl, rfl⟩
theorem nil_safe (w : World) : Calls Try.prog 19 #[.pointer none] w fun e w' => e = .returned (.int .i64 0) ∧ w = w' := by
  go_enter Try.func19, Try.ntmps19
  go_wp2
  go_ret
  exact ⟨rfl, rfl⟩
theorem nil_calls (w : World) : Calls Try.prog 18 #[.pointer none] w fun e w' => e = .returned (.int .i64 0) ∧ w = w' := by
  go_enter Try.func18, Try.ntmps18
  go_wp2
  go_ret
  exact ⟨rfl, rfl⟩
theorem nil_cut (n m : Int) (w : World) : Calls Try.prog 10 #[.pointer none, .int .i64 n, .int .i64 m] w fun e w' => e = .returned (.pointer none) ∧ w = w' := by
  go_enter Try.func10, Try.ntmps10
  go_wp2
  go_ret
  exact ⟨rfl, rfl⟩

/-- A tape whose blocks all lie at B or behind. -/
def Kept (B p : Nat) (sv : Value) : Prop := B ≤ p ∧ ∀ k, sv.ownBlock = some k → B ≤ k
theorem did_kept {B : Nat} {w w' : World} {p : Nat} {sv : Value} {f s : List UInt8 × Nat} {st : List (List UInt8 × Nat)} {r : Int} {e : Ending} (ho : Kept B p sv) (hB : B ≤ w.heap.size) (h : Did w p sv f s st r e w') :
    ∃ sv', e = .returned (.int .i64 r) ∧ TapeAt w' p sv' f s st ∧ Kept B p sv' ∧ Below B w w' := by
  obtain ⟨sv', rfl, h1, h2, h3⟩ := h
  refine ⟨sv', rfl, h1, ⟨ho.1, fun k hk => ?_⟩, h2.to_below hB ?_⟩
  · rcases h3 k hk with h | h
    · exact ho.2 k h
    · omega
  · rintro k o (h | h)
    · rw [h]; exact ho.1
    · exact ho.2 k h.symm
theorem cell_new (w : World) (cs : Array Value) (t : TypeId) (fr : Nat × Nat) {j : Nat} {u : Value} (h : cs[j]? = some u) : (w.alloc (.cells cs t fr)).cell? ⟨w.heap.size, 0 + j, none⟩ = some u := by
  rw [Nat.zero_add]
  have := heap_alloc_new w (.cells cs t fr)
  unfold World.cell?
  rw [this]
  simpa using h
/-- Append, the length apart. -/
theorem append_ok' (p : Nat) (sv : Value) (f n : List UInt8 × Nat) (st : List (List UInt8 × Nat)) (A' : Option Addr) (ys : List UInt8) (m c' : Nat) (w : World) (hM : ys.length = m) (h : TapeAt w p sv f n st) (hm : n.1.length + ys.length ≤ 1048576) (hs' : Sl w w.heap.size 1 A' ys.length (bts ys)) (hn : st.length ≤ 1000000) :
    Calls Try.prog 9 #[.pointer (some ⟨p, 0, none⟩), .slice A' m c'] w (Did w p sv f (n.1 ++ ys, n.2) (st ++ [(n.1 ++ ys, n.2)]) 0) := by
  subst hM
  exact append_ok p sv f n st A' ys c' w h hm hs' hn

set_option maxHeartbeats 1000000 in
theorem alive_any (w : World) : Calls Try.prog 8 #[] w fun e w' => e = .returned (.bool true) ∧ Below w.heap.size w w' := by
  have HN := Lib.hid (fun w => new_any w)
  have HB := fun W : World => Lib.run_convert_bytes_const (P := Try.prog) W 22 5 #[.int .u8 120, .int .u8 121] 2 2 Try.underlying22 Try.underlying5
  have HA := Lib.hid append_ok'

  have HS := Lib.hid sync_any
  have HR := Lib.hid read_any
  have HF := Lib.hid safe_any
  have HC := Lib.hid calls_any
  go_enter Try.func8, Try.ntmps8
  go_wp2_with fail
  with_reducible refine (HN.out _).mono ?_
  rintro e w1 ⟨rfl, hb, hlt, ht⟩
  go_wp2_with fail
  have hb2 : Below w1.heap.size w1 (w1.alloc (.cells #[.int .u8 120, .int .u8 121] 5 (2, 3))) := (by (first | assumption | (repeat (first | exact Below.refl _ _ | assumption | apply Below.drew | apply below_drewN | (refine Below.setCell ?_ (by (try simp) <;> omega) _) | (refine Below.alloc ?_ (by (try simp) <;> omega) _)))))
  have t2 := ht.below hb2 (Nat.le_refl _)
  have hsl : Sl (w1.alloc (.cells #[.int .u8 120, .int .u8 121] 5 (2, 3))) (w1.alloc (.cells #[.int .u8 120, .int .u8 121] 5 (2, 3))).heap.size 1 (some ⟨w1.heap.size, 0, none⟩) (([120, 121] : List UInt8).length) (bts [120, 121]) := by
    refine ⟨rfl, fun _ => ⟨w1.heap.size, 0, rfl, by simp, fun i u hu => ?_⟩⟩
    match i with
    | 0 => simp [bts] at hu; subst hu; exact cell_new _ _ _ _ (by rfl)
    | 1 => simp [bts] at hu; subst hu; exact cell_new _ _ _ _ (by rfl)
    | j + 2 => simp [bts] at hu
  with_reducible refine (HA.out w.heap.size _ _ _ _ (some ⟨w1.heap.size, 0, none⟩) [120, 121] 2 2 _ rfl t2 (by decide) hsl (by simp)).mono ?_
  intro e w2 hd
  obtain ⟨sv2, rfl, t3, k3, b3⟩ := did_kept (B := w.heap.size) ⟨Nat.le_refl _, fun k h => by cases h⟩ (by have := hb.size; have := hb2.size; omega) hd
  go_wp2_with fail
  with_reducible refine (HS.out w.heap.size sv2 _ _ _ w2 t3 (by simp)).mono ?_
  intro e w3 hd
  obtain ⟨sv3, rfl, t4, k4, b4⟩ := did_kept k3 (by have := hb.size; have := hb2.size; have := b3.size; omega) hd
  go_wp2_with fail
  with_reducible refine (HR.out w.heap.size sv3 _ _ _ w3 t4).mono ?_
  rintro e w4 ⟨v, rfl, hr, b4', _⟩
  obtain ⟨A4, c4, hv, _, _, h4⟩ := hr.sl
  rw [show (bts ([] ++ [120, 121])).length = 2 from rfl] at hv
  subst hv
  have t5 : TapeAt w4 w.heap.size sv3 ([], 0) ([120, 121], 2) [([120, 121], 0), ([120, 121], 2)] := t4.below b4' (Nat.le_refl _)
  have hcv := run_conv (P := Try.prog) (w := w4) (xs := [120, 121]) (dst := 9) Try.underlying22 Try.underlying5 Try.underlying9 c4 h4
  have hcv' : (convert 22 9 (.slice A4 2 c4)).run Try.prog w4 = .ok (.string ⟨#[120, 121]⟩) w4 := hcv
  clear hcv
  go_wp2_with fail
  have f5 : Calls Try.prog 19 #[.pointer (some ⟨w.heap.size, 0, none⟩)] w4 fun e w' => e = .returned (.int .i64 2) ∧ Below w4.heap.size w4 w' := HF.out w.heap.size sv3 _ _ _ w4 t5
  with_reducible refine f5.mono ?_
  rintro e w5 ⟨rfl, b5⟩
  go_wp2_with fail
  have f6 : Calls Try.prog 18 #[.pointer (some ⟨w.heap.size, 0, none⟩)] w5 fun e w' => e = .returned (.int .i64 2) ∧ Below w5.heap.size w5 w' := HC.out w.heap.size sv3 _ _ _ w5 (t5.below b5 (Nat.le_refl _))
  with_reducible refine f6.mono ?_
  rintro e w6 ⟨rfl, b6⟩
  go_wp2_with fail
  go_ret
  refine ⟨rfl, ?_⟩
  have z0 := hb.size
  have z1 := hb2.size
  have z2 := b3.size
  have z3 := b4.size
  have z4 := b4'.size
  have z5 := b5.size
  exact (((((hb.trans (hb2.mono (by omega))).trans b3).trans b4).trans (b4'.mono (by omega))).trans (b5.mono (by omega))).trans (b6.mono (by omega))
end Go.Proofs.Ytfgjpmbbfilemaa

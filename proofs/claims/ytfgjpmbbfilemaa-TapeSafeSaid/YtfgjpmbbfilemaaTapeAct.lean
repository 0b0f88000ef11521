/- What this text proves: the contract of the law's 'act': one operation on both tapes. The conditions are how the tapes and the operation lie in memory. -/
import Derived.Test.YtfgjpmbbfilemaaTapeBoth
import Derived.Test.YtfgjpmbbfilemaaOpenOp
namespace Go.Proofs.Ytfgjpmbbfilemaa
open Go.RowKit
set_option linter.unusedVariables false
set_option linter.unusedSimpArgs false

/-- What an operation leaves of both tapes. -/
def ActD (w : World) (B p m : Nat) (f : List UInt8 × Nat) (N : Nat) : Prop :=
  ∃ sv lv n st, Both w B p sv m lv f n st ∧ st.length ≤ N + 1
/-- The same call on the one tape, then on the other. -/
def OpsStay (w w' : World) : Prop := ∀ q cs, Bk w q 35 cs → Bk w' q 35 cs
theorem OpsStay.bk {w w' : World} (h : OpsStay w w') {q : Nat} {cs : Array Value} (hq : Bk w q 35 cs) : Bk w' q 35 cs := h q cs hq
theorem ops_stay {w w' : World} {p : Nat} {sv : Value} {f n : List UInt8 × Nat} {st : List (List UInt8 × Nat)} (t : TapeAt w p sv f n st) (hm : Moves (TapeX p sv) w w') : OpsStay w w' := by
  intro q cs hq
  obtain ⟨nb, fb, b1, _, _⟩ := t.bk
  obtain ⟨xs, o1, _⟩ := t.own
  refine hm.bk hq ?_
  rintro (h | h)
  · subst h; exact Bk.ne_ b1 hq (by decide) rfl
  · exact own_ne o1 hq (by decide) h
def Two (g g' : FuncId) (args args' : Array Value) (W : World) (B p m : Nat) (f : List UInt8 × Nat) (N : Nat) : Prop :=
  Calls Try.prog g args W fun e w' => ∃ r, e = .returned (.int .i64 r) ∧ Below B W w' ∧ OpsStay W w' ∧
    Calls Try.prog g' args' w' fun e2 w'' => e2 = .returned (.int .i64 r) ∧ ActD w'' B p m f N ∧ Below B w' w''
theorem Two.out {g g' : FuncId} {args args' : Array Value} {W : World} {B p m : Nat} {f : List UInt8 × Nat} {N : Nat} (h : Two g g' args args' W B p m f N) :
    Calls Try.prog g args W fun e w' => ∃ r, e = .returned (.int .i64 r) ∧ Below B W w' ∧ OpsStay W w' ∧
      Calls Try.prog g' args' w' fun e2 w'' => e2 = .returned (.int .i64 r) ∧ ActD w'' B p m f N ∧ Below B w' w'' := h

section
variable {w : World} {B p m : Nat} {sv lv : Value} {f n : List UInt8 × Nat} {st : List (List UInt8 × Nat)}
theorem two_sync (h : Both w B p sv m lv f n st) (hB : B ≤ w.heap.size) (hn : st.length ≤ 999999) :
    Two 17 29 #[.pointer (some ⟨p, 0, none⟩)] #[.pointer (some ⟨m, 0, none⟩)] w B p m f st.length := by
  refine (sync_any p sv f n st w h.t (by omega)).mono fun e w1 hd => ?_
  have hop : OpsStay w w1 := by obtain ⟨_, _, _, hmv, _⟩ := hd; exact ops_stay h.t hmv
  obtain ⟨sv1, rfl, t1, r1, k1, b1⟩ := both_first h hB hd
  refine ⟨_, rfl, b1, hop, ?_⟩
  refine (rsync_any m lv (f :: st) n st.length w1 r1 (by simp) (by omega) h.last).mono fun e w2 hd => ?_
  obtain ⟨lv2, rfl, h2, b2⟩ := both_then t1 r1 k1 h.kr (Nat.le_trans hB b1.size) hd
  exact ⟨rfl, ⟨sv1, lv2, _, _, h2, by simp⟩, b2⟩

theorem two_append (A : Option Addr) (ys : List UInt8) (c : Nat) (h : Both w B p sv m lv f n st) (hB : B ≤ w.heap.size) (hn : st.length ≤ 999999) (hM : ys.length ≤ maxLen) (hs : Sl w B 1 A ys.length (bts ys)) :
    Two 9 28 #[.pointer (some ⟨p, 0, none⟩), .slice A ys.length c] #[.pointer (some ⟨m, 0, none⟩), .slice A ys.length c] w B p m f st.length := by
  by_cases hf : n.1.length + ys.length ≤ 1048576
  · refine (append_ok' p sv f n st A ys ys.length c w rfl h.t hf (hs.more hB) (by omega)).mono fun e w1 hd => ?_
    have hop : OpsStay w w1 := by obtain ⟨_, _, _, hmv, _⟩ := hd; exact ops_stay h.t hmv
    obtain ⟨sv1, rfl, t1, r1, k1, b1⟩ := both_first h hB hd
    refine ⟨_, rfl, b1, hop, ?_⟩
    have hB1 := Nat.le_trans hB b1.size
    refine (rappend_ok m lv (f :: st) n st.length ys.length A ys c w1 r1 (by simp) (by omega) h.last rfl hf ((hs.below b1).more hB1)).mono fun e w2 hd => ?_
    obtain ⟨lv2, rfl, h2, b2⟩ := both_then t1 r1 k1 h.kr hB1 hd
    exact ⟨rfl, ⟨sv1, lv2, _, _, h2, by simp⟩, b2⟩
  · refine (append_full p sv f n st A ys.length c w h.t (by omega) hM).mono fun e w1 hd => ?_
    obtain ⟨rfl, rfl⟩ := hd
    refine ⟨_, rfl, Below.refl _ _, fun _ _ h => h, ?_⟩
    refine (rappend_full m lv (f :: st) n st.length ys.length A c w h.r (by simp) (by omega) h.last (by omega) hM).mono fun e w2 hd => ?_
    obtain ⟨rfl, b2⟩ := hd
    exact ⟨rfl, ⟨sv, lv, n, st, h.below b2 (Nat.le_refl _), by omega⟩, b2.mono hB⟩

theorem two_trim (k : Int) (h : Both w B p sv m lv f n st) (hB : B ≤ w.heap.size) (hn : st.length ≤ 999999) :
    Two 20 30 #[.pointer (some ⟨p, 0, none⟩), .int .i64 k] #[.pointer (some ⟨m, 0, none⟩), .int .i64 k] w B p m f st.length := by
  by_cases hf : k < 0 ∨ (n.1.length : Int) < k
  · refine (trim_bad p sv f n st k w h.t hf).mono fun e w1 hd => ?_
    obtain ⟨rfl, rfl⟩ := hd
    refine ⟨_, rfl, Below.refl _ _, fun _ _ h => h, ?_⟩
    refine (rtrim_bad m lv (f :: st) n st.length k w h.r (by simp) (by omega) h.last hf).mono fun e w2 hd => ?_
    obtain ⟨rfl, b2⟩ := hd
    exact ⟨rfl, ⟨sv, lv, n, st, h.below b2 (Nat.le_refl _), by omega⟩, b2.mono hB⟩
  · obtain ⟨t, rfl⟩ : ∃ t : Nat, k = t := ⟨k.toNat, by omega⟩
    refine (trim_ok p sv f n st t w h.t (by omega) (by omega)).mono fun e w1 hd => ?_
    have hop : OpsStay w w1 := by obtain ⟨_, _, _, hmv, _⟩ := hd; exact ops_stay h.t hmv
    obtain ⟨sv1, rfl, t1, r1, k1, b1⟩ := both_first h hB hd
    refine ⟨_, rfl, b1, hop, ?_⟩
    have hB1 := Nat.le_trans hB b1.size
    refine (rtrim_ok m lv (f :: st) n st.length t w1 r1 (by simp) (by omega) h.last (by omega)).mono fun e w2 hd => ?_
    obtain ⟨lv2, rfl, h2, b2⟩ := both_then t1 r1 k1 h.kr hB1 hd
    exact ⟨rfl, ⟨sv1, lv2, _, _, h2, by simp⟩, b2⟩
end
end Go.Proofs.Ytfgjpmbbfilemaa

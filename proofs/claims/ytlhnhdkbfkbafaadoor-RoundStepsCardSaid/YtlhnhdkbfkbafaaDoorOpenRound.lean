/- What this text proves: how a hash, a height's state and an input read that came in as arguments. No condition. -/
import Derived.Test.YtlhnhdkbfkbafaaDoorRound
import Derived.ProofKit
import Derived.OpenShut
import Derived.ChangeOld
import Derived.Deep.Slices
import Derived.Lib.SmallJoins
namespace Go.Proofs.YtlhnhdkbfkbafaaDoor
open Go.ChangeShapes Go.WideShapes Go.ChangeAt Go.RowKit Go.Deep Go.Joins
set_option linter.unusedVariables false
set_option linter.unusedSimpArgs false

theorem wf_u8 {k : Int} (h : (Lit.int .u8 k).wf = true) : 0 ≤ k ∧ k < 256 := by
  have := bounds_u8 h
  omega
theorem bytes_of : ∀ cs : List Value, (∀ i, i < cs.length → ∃ u : UInt8, cs[i]? = some (.int .u8 (u.toNat : Int))) → ∃ h, cs = bts h
  | [], _ => ⟨[], rfl⟩
  | c :: cs, h => by
    obtain ⟨u, hu⟩ := h 0 (by simp)
    obtain ⟨l, hl⟩ := bytes_of cs (fun i hi => by
      have := h (i + 1) (by simpa using hi)
      simpa using this)
    simp at hu
    exact ⟨u :: l, by rw [hl, hu]; rfl⟩
section
variable {H : Type} {enc : TypeId × Value → H} {w : World}
theorem open_hash {base : Nat} {spare : Nat → Bool} {held : Bool} {fuel : Nat} {cs : List Value} {x : DataW H × List MemPlace} (h : DataW.trod enc Tryd.prog w base spare held fuel 23 cs = some x) (hl : cs.length = 32) : ∃ b : List UInt8, cs = bts b ∧ b.length = 32 := by
  obtain ⟨xs, m, _, _, _, hxl, hxs⟩ := DataW.trod_array Tryd.underlying23 h
  have e1 : Tryd.prog.cellsOf 5 = 1 := by kernel_rfl
  obtain ⟨b, hb⟩ := bytes_of cs (fun i hi => by
    have f := hxs i (by omega)
    rw [e1, List.getElem?_eq_getElem (by omega)] at f
    obtain ⟨k, hk, _, hw⟩ := DataW.trod_int Tryd.underlying5 f
    obtain ⟨h1, h2⟩ := wf_u8 hw
    refine ⟨UInt8.ofNat k.toNat, ?_⟩
    have h0 : ((cs.drop (i * 1)).take 1)[0]? = some (.int .u8 k) := by rw [hk]; rfl
    rw [List.getElem?_take, if_pos (by omega), List.getElem?_drop] at h0
    simp only [Nat.mul_one, Nat.add_zero] at h0
    rw [h0]
    congr 2
    simp
    omega)
  exact ⟨b, hb, by rw [hb, bts_len] at hl; exact hl⟩
theorem open_statec {base : Nat} {spare : Nat → Bool} {held : Bool} {fuel : Nat} {cs : List Value} {x : DataW H × List MemPlace} (h : DataW.trod enc Tryd.prog w base spare held fuel 25 cs = some x) : ∃ o : St, cs = o.cells ∧ o.good := by
  obtain ⟨xs, n', _, _, hlen2, hxl, hfs⟩ := DataW.trod_struct Tryd.underlying25 h
  rw [show Tryd.prog.cellsOf 25 = 102 by kernel_rfl] at hlen2
  have ei : Tryd.prog.cellsOf 3 = 1 := by kernel_rfl
  have eb : Tryd.prog.cellsOf 4 = 1 := by kernel_rfl
  have eh : Tryd.prog.cellsOf 23 = 32 := by kernel_rfl
  have f0 : DataW.trod enc Tryd.prog w base spare held n' 3 ((cs.drop 0).take (Tryd.prog.cellsOf 3)) = xs[0]? := hfs 0 _ rfl
  rw [ei, List.getElem?_eq_getElem (by rw [hxl]; decide)] at f0
  obtain ⟨k0, e0, _, w0⟩ := DataW.trod_int Tryd.underlying3 f0
  have f1 : DataW.trod enc Tryd.prog w base spare held n' 3 ((cs.drop 1).take (Tryd.prog.cellsOf 3)) = xs[1]? := hfs 1 _ rfl
  rw [ei, List.getElem?_eq_getElem (by rw [hxl]; decide)] at f1
  obtain ⟨k1, e1, _, w1⟩ := DataW.trod_int Tryd.underlying3 f1
  have f2 : DataW.trod enc Tryd.prog w base spare held n' 23 ((cs.drop 2).take (Tryd.prog.cellsOf 23)) = xs[2]? := hfs 2 _ rfl
  rw [eh, List.getElem?_eq_getElem (by rw [hxl]; decide)] at f2
  obtain ⟨b2, e2, w2⟩ := open_hash f2 (by simp; omega)
  have f3 : DataW.trod enc Tryd.prog w base spare held n' 3 ((cs.drop 34).take (Tryd.prog.cellsOf 3)) = xs[3]? := hfs 3 _ rfl
  rw [ei, List.getElem?_eq_getElem (by rw [hxl]; decide)] at f3
  obtain ⟨k3, e3, _, w3⟩ := DataW.trod_int Tryd.underlying3 f3
  have f4 : DataW.trod enc Tryd.prog w base spare held n' 23 ((cs.drop 35).take (Tryd.prog.cellsOf 23)) = xs[4]? := hfs 4 _ rfl
  rw [eh, List.getElem?_eq_getElem (by rw [hxl]; decide)] at f4
  obtain ⟨b4, e4, w4⟩ := open_hash f4 (by simp; omega)
  have f5 : DataW.trod enc Tryd.prog w base spare held n' 3 ((cs.drop 67).take (Tryd.prog.cellsOf 3)) = xs[5]? := hfs 5 _ rfl
  rw [ei, List.getElem?_eq_getElem (by rw [hxl]; decide)] at f5
  obtain ⟨k5, e5, _, w5⟩ := DataW.trod_int Tryd.underlying3 f5
  have f6 : DataW.trod enc Tryd.prog w base spare held n' 23 ((cs.drop 68).take (Tryd.prog.cellsOf 23)) = xs[6]? := hfs 6 _ rfl
  rw [eh, List.getElem?_eq_getElem (by rw [hxl]; decide)] at f6
  obtain ⟨b6, e6, w6⟩ := open_hash f6 (by simp; omega)
  have f7 : DataW.trod enc Tryd.prog w base spare held n' 3 ((cs.drop 100).take (Tryd.prog.cellsOf 3)) = xs[7]? := hfs 7 _ rfl
  rw [ei, List.getElem?_eq_getElem (by rw [hxl]; decide)] at f7
  obtain ⟨k7, e7, _, w7⟩ := DataW.trod_int Tryd.underlying3 f7
  have f8 : DataW.trod enc Tryd.prog w base spare held n' 3 ((cs.drop 101).take (Tryd.prog.cellsOf 3)) = xs[8]? := hfs 8 _ rfl
  rw [ei, List.getElem?_eq_getElem (by rw [hxl]; decide)] at f8
  obtain ⟨k8, e8, _, w8⟩ := DataW.trod_int Tryd.underlying3 f8
  have cut : ∀ a b c : Nat, a + b = c → cs.drop a = (cs.drop a).take b ++ cs.drop c := fun a b c e => by subst e; rw [← List.drop_drop, List.take_append_drop]
  have hz : cs.drop 102 = [] := List.drop_of_length_le (by omega)
  have hc : cs = cs.drop 0 := rfl
  refine ⟨⟨k0, k1, b2, k3, b4, k5, b6, k7, k8⟩, ?_, ⟨w2, w4, w6⟩⟩
  rw [hc, cut 0 1 1 rfl, e0, cut 1 1 2 rfl, e1, cut 2 32 34 rfl, e2, cut 34 1 35 rfl, e3, cut 35 32 67 rfl, e4, cut 67 1 68 rfl, e5, cut 68 32 100 rfl, e6, cut 100 1 101 rfl, e7, cut 101 1 102 rfl, e8, hz]
  simp [St.cells]
theorem open_state {base b0 : Nat} {spare : Nat → Bool} {held : Bool} {r : Reach} {v : Value} {d : DataW H} {p : List MemPlace} (hv : Value.okWide Tryd.prog w r b0 25 v) (h : DataW.Trod enc Tryd.prog w base spare held 25 v d p) :
    ∃ o : St, v = .agg o.cells.toArray ∧ o.good := by
  obtain ⟨cs, rfl, _⟩ := okWide_struct Tryd.underlying25 hv
  obtain ⟨fuel, hf⟩ := h
  obtain ⟨o, ho, hg⟩ := open_statec hf
  simp only [Value.cells] at ho
  exact ⟨o, by rw [← ho], hg⟩
theorem open_inputc {base : Nat} {spare : Nat → Bool} {held : Bool} {fuel : Nat} {cs : List Value} {x : DataW H × List MemPlace} (h : DataW.trod enc Tryd.prog w base spare held fuel 27 cs = some x) : ∃ o : In, cs = o.cells ∧ o.fits := by
  obtain ⟨xs, n', _, _, hlen2, hxl, hfs⟩ := DataW.trod_struct Tryd.underlying27 h
  rw [show Tryd.prog.cellsOf 27 = 68 by kernel_rfl] at hlen2
  have ei : Tryd.prog.cellsOf 3 = 1 := by kernel_rfl
  have eb : Tryd.prog.cellsOf 4 = 1 := by kernel_rfl
  have eh : Tryd.prog.cellsOf 23 = 32 := by kernel_rfl
  have f0 : DataW.trod enc Tryd.prog w base spare held n' 3 ((cs.drop 0).take (Tryd.prog.cellsOf 3)) = xs[0]? := hfs 0 _ rfl
  rw [ei, List.getElem?_eq_getElem (by rw [hxl]; decide)] at f0
  obtain ⟨k0, e0, _, w0⟩ := DataW.trod_int Tryd.underlying3 f0
  have f1 : DataW.trod enc Tryd.prog w base spare held n' 3 ((cs.drop 1).take (Tryd.prog.cellsOf 3)) = xs[1]? := hfs 1 _ rfl
  rw [ei, List.getElem?_eq_getElem (by rw [hxl]; decide)] at f1
  obtain ⟨k1, e1, _, w1⟩ := DataW.trod_int Tryd.underlying3 f1
  have f2 : DataW.trod enc Tryd.prog w base spare held n' 23 ((cs.drop 2).take (Tryd.prog.cellsOf 23)) = xs[2]? := hfs 2 _ rfl
  rw [eh, List.getElem?_eq_getElem (by rw [hxl]; decide)] at f2
  obtain ⟨b2, e2, w2⟩ := open_hash f2 (by simp; omega)
  have f3 : DataW.trod enc Tryd.prog w base spare held n' 3 ((cs.drop 34).take (Tryd.prog.cellsOf 3)) = xs[3]? := hfs 3 _ rfl
  rw [ei, List.getElem?_eq_getElem (by rw [hxl]; decide)] at f3
  obtain ⟨k3, e3, _, w3⟩ := DataW.trod_int Tryd.underlying3 f3
  have f4 : DataW.trod enc Tryd.prog w base spare held n' 4 ((cs.drop 35).take (Tryd.prog.cellsOf 4)) = xs[4]? := hfs 4 _ rfl
  rw [eb, List.getElem?_eq_getElem (by rw [hxl]; decide)] at f4
  obtain ⟨k4, e4, _⟩ := DataW.trod_bool Tryd.underlying4 f4
  have f5 : DataW.trod enc Tryd.prog w base spare held n' 23 ((cs.drop 36).take (Tryd.prog.cellsOf 23)) = xs[5]? := hfs 5 _ rfl
  rw [eh, List.getElem?_eq_getElem (by rw [hxl]; decide)] at f5
  obtain ⟨b5, e5, w5⟩ := open_hash f5 (by simp; omega)
  have cut : ∀ a b c : Nat, a + b = c → cs.drop a = (cs.drop a).take b ++ cs.drop c := fun a b c e => by subst e; rw [← List.drop_drop, List.take_append_drop]
  have hz : cs.drop 68 = [] := List.drop_of_length_le (by omega)
  have hc : cs = cs.drop 0 := rfl
  refine ⟨⟨k0, k1, b2, k3, k4, b5⟩, ?_, ⟨w2, w5⟩⟩
  rw [hc, cut 0 1 1 rfl, e0, cut 1 1 2 rfl, e1, cut 2 32 34 rfl, e2, cut 34 1 35 rfl, e3, cut 35 1 36 rfl, e4, cut 36 32 68 rfl, e5, hz]
  simp [In.cells]
theorem open_input {base b0 : Nat} {spare : Nat → Bool} {held : Bool} {r : Reach} {v : Value} {d : DataW H} {p : List MemPlace} (hv : Value.okWide Tryd.prog w r b0 27 v) (h : DataW.Trod enc Tryd.prog w base spare held 27 v d p) :
    ∃ o : In, v = .agg o.cells.toArray ∧ o.fits := by
  obtain ⟨cs, rfl, _⟩ := okWide_struct Tryd.underlying27 hv
  obtain ⟨fuel, hf⟩ := h
  obtain ⟨o, ho, hg⟩ := open_inputc hf
  simp only [Value.cells] at ho
  exact ⟨o, by rw [← ho], hg⟩
end
end Go.Proofs.YtlhnhdkbfkbafaaDoor

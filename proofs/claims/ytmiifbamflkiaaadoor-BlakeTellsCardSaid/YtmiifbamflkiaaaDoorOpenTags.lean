/- What this text proves: how a byte, a pair of slices of bytes, a hash and a pair of hashes that came in as arguments read. No condition. -/
import Derived.Test.YtmiifbamflkiaaaDoorOpenBytess
import Derived.ProofKit
import Derived.OpenShut
import Derived.ChangeOld
import Derived.Lib.SmallJoins
namespace Go.Proofs.YtmiifbamflkiaaaDoor
open Go.ChangeShapes Go.WideShapes Go.ChangeAt Go.RowKit Go.Deep Go.Joins
set_option linter.unusedVariables false
set_option linter.unusedSimpArgs false

theorem okWide_array {P : Program} {w : World} {r : Reach} {base n : Nat} {t e : TypeId} {v : Value} (ht : P.underlying t = some (.array n e)) (h : Value.okWide P w r base t v) : ∃ cs, v = .agg cs ∧ cs.size = P.cellsOf t := by
  simp only [Value.okWide, ht] at h
  obtain ⟨cs, h1, h2, _⟩ := h
  exact ⟨cs, h1, h2⟩
theorem bytes_of : ∀ cs : List Value, (∀ i, i < cs.length → ∃ u : UInt8, cs[i]? = some (.int .u8 (u.toNat : Int))) → ∃ h, cs = bts h
  | [], _ => ⟨[], rfl⟩
  | c :: cs, h => by
    obtain ⟨u, hu⟩ := h 0 (by simp)
    obtain ⟨l, hl⟩ := bytes_of cs (fun i hi => by
      have := h (i + 1) (by simpa using hi)
      simpa using this)
    simp at hu
    exact ⟨u :: l, by rw [hl, hu]; rfl⟩
section
variable {H : Type} {enc : TypeId × Value → H} {w : World}
theorem open_hashc {base : Nat} {spare : Nat → Bool} {held : Bool} {fuel : Nat} {cs : List Value} {x : DataW H × List MemPlace} (h : DataW.trod enc Tryd.prog w base spare held fuel 25 cs = some x) (hl : cs.length = 32) : ∃ b : List UInt8, cs = bts b ∧ b.length = 32 := by
  obtain ⟨xs, m, _, _, _, hxl, hxs⟩ := DataW.trod_array Tryd.underlying25 h
  have e1 : Tryd.prog.cellsOf 5 = 1 := by kernel_rfl
  obtain ⟨b, hb⟩ := bytes_of cs (fun i hi => by
    have f := hxs i (by omega)
    rw [e1, List.getElem?_eq_getElem (by omega)] at f
    obtain ⟨k, hk, _, hw⟩ := DataW.trod_int Tryd.underlying5 f
    obtain ⟨h1, h2⟩ := wf_u8 hw
    refine ⟨UInt8.ofNat k.toNat, ?_⟩
    have h0 : ((cs.drop (i * 1)).take 1)[0]? = some (.int .u8 k) := by rw [hk]; rfl
    rw [List.getElem?_take, if_pos (by omega), List.getElem?_drop] at h0
    simp only [Nat.mul_one, Nat.add_zero] at h0
    rw [h0]
    congr 2
    simp
    omega)
  exact ⟨b, hb, by rw [hb, bts_len] at hl; exact hl⟩
theorem open_hash {base b0 : Nat} {spare : Nat → Bool} {held : Bool} {r : Reach} {v : Value} {d : DataW H} {p : List MemPlace} (hv : Value.okWide Tryd.prog w r b0 25 v) (h : DataW.Trod enc Tryd.prog w base spare held 25 v d p) :
    ∃ x : List UInt8, v = .agg (bts x).toArray ∧ x.length = 32 := by
  obtain ⟨cs, rfl, hsz⟩ := okWide_array Tryd.underlying25 hv
  rw [show Tryd.prog.cellsOf 25 = 32 by kernel_rfl] at hsz
  obtain ⟨fuel, hf⟩ := h
  obtain ⟨x, hx, hl⟩ := open_hashc hf (by simpa [Value.cells] using hsz)
  simp only [Value.cells] at hx
  exact ⟨x, by rw [← hx], hl⟩
theorem open_hash2 {base b0 : Nat} {spare : Nat → Bool} {held : Bool} {r : Reach} {v : Value} {d : DataW H} {p : List MemPlace} (hv : Value.okWide Tryd.prog w r b0 39 v) (h : DataW.Trod enc Tryd.prog w base spare held 39 v d p) :
    ∃ x y : List UInt8, v = .agg (bts x ++ bts y).toArray ∧ x.length = 32 ∧ y.length = 32 := by
  obtain ⟨cs, rfl, hsz⟩ := okWide_array Tryd.underlying39 hv
  rw [show Tryd.prog.cellsOf 39 = 64 by kernel_rfl] at hsz
  obtain ⟨fuel, hf⟩ := h
  obtain ⟨xs, m, _, _, _, hxl, hxs⟩ := DataW.trod_array Tryd.underlying39 hf
  have e1 : Tryd.prog.cellsOf 25 = 32 := by kernel_rfl
  have hl : cs.toList.length = 64 := by simpa using hsz
  have f0 := hxs 0 (by omega)
  have f1 := hxs 1 (by omega)
  rw [e1] at f0 f1
  rw [List.getElem?_eq_getElem (by omega)] at f0 f1
  simp only [Value.cells] at f0 f1
  obtain ⟨x, hx, hxl'⟩ := open_hashc f0 (by simp; omega)
  obtain ⟨y, hy, hyl'⟩ := open_hashc f1 (by simp; omega)
  refine ⟨x, y, ?_, hxl', hyl'⟩
  rw [← hx, ← hy]
  congr 1
  apply Array.ext'
  simp only [Nat.zero_mul, List.drop_zero, Nat.one_mul, List.toList_toArray]
  rw [List.take_of_length_le (l := cs.toList.drop 32) (by simp; omega), List.take_append_drop]
theorem array2 {cs : Array Value} (h : cs.size = 2) : ∃ a b, cs = #[a, b] := by
  obtain ⟨l⟩ := cs
  match l, h with
  | [a, b], _ => exact ⟨a, b, rfl⟩
theorem open_two {base b0 : Nat} {spare : Nat → Bool} {held : Bool} {r : Reach} {v : Value} {d : DataW H} {p : List MemPlace} (hv : Value.okWide Tryd.prog w r b0 35 v) (h : DataW.Trod enc Tryd.prog w base spare held 35 v d p) :
    ∃ a b : Part, v = .agg #[slv a, slv b] ∧ a.good w ∧ b.good w := by
  obtain ⟨cs, rfl, hsz⟩ := okWide_array Tryd.underlying35 hv
  rw [show Tryd.prog.cellsOf 35 = 2 by kernel_rfl] at hsz
  obtain ⟨c0, c1, rfl⟩ := array2 hsz
  obtain ⟨fuel, hf⟩ := h
  obtain ⟨xs, m, _, _, _, hxl, hxs⟩ := DataW.trod_array Tryd.underlying35 hf
  have e1 : Tryd.prog.cellsOf 22 = 1 := by kernel_rfl
  have f0 := hxs 0 (by omega)
  have f1 := hxs 1 (by omega)
  rw [e1] at f0 f1
  rw [List.getElem?_eq_getElem (by omega)] at f0 f1
  obtain ⟨A, l, c, h1, h2, h3, h4⟩ := open_bts f0
  obtain ⟨A', l', c', h1', h2', h3', h4'⟩ := open_bts f1
  simp [Value.cells] at h1 h1'
  exact ⟨(A, c, l), (A', c', l'), by rw [h1, h1']; rfl, ⟨h2, h3, h4⟩, ⟨h2', h3', h4'⟩⟩
theorem open_u8 {base b0 : Nat} {spare : Nat → Bool} {held : Bool} {r : Reach} {v : Value} {d : DataW H} {p : List MemPlace} (hv : Value.okWide Tryd.prog w r b0 5 v) (h : DataW.Trod enc Tryd.prog w base spare held 5 v d p) :
    ∃ a : UInt8, v = .int .u8 (a.toNat : Int) ∧ True := by
  obtain ⟨k, rfl, _, _, hw⟩ := open_int Tryd.underlying5 hv h
  obtain ⟨h1, h2⟩ := wf_u8 hw
  refine ⟨UInt8.ofNat k.toNat, ?_, trivial⟩
  congr 1
  simp
  omega
end
end Go.Proofs.YtmiifbamflkiaaaDoor

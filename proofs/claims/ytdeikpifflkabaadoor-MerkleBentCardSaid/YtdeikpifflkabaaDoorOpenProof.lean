/- What this text proves: how a hash, a string, a part and a proof that came in as arguments read. No condition. -/
import Derived.Test.YtdeikpifflkabaaDoorOpenEnt
import Derived.Test.YtdeikpifflkabaaDoorMerCheckR
namespace Go.Proofs.YtdeikpifflkabaaDoor
open Go.ChangeShapes Go.WideShapes Go.ChangeAt Go.RowKit Go.Deep Go.Joins
set_option linter.unusedVariables false
set_option linter.unusedSimpArgs false
set_option maxRecDepth 100000

theorem okWide_array {P : Program} {w : World} {r : Reach} {base n : Nat} {t e : TypeId} {v : Value} (ht : P.underlying t = some (.array n e)) (h : Value.okWide P w r base t v) : ∃ cs, v = .agg cs ∧ cs.size = P.cellsOf t := by
  simp only [Value.okWide, ht] at h
  obtain ⟨cs, h1, h2, _⟩ := h
  exact ⟨cs, h1, h2⟩
theorem bytes_of : ∀ cs : List Value, (∀ i, i < cs.length → ∃ u : UInt8, cs[i]? = some (.int .u8 (u.toNat : Int))) → ∃ h, cs = bts h
  | [], _ => ⟨[], rfl⟩
  | c :: cs, h => by
    obtain ⟨u, hu⟩ := h 0 (by simp)
    obtain ⟨l, hl⟩ := bytes_of cs (fun i hi => by
      have := h (i + 1) (by simpa using hi)
      simpa using this)
    simp at hu
    exact ⟨u :: l, by rw [hl, hu]; rfl⟩
section
variable {H : Type} {enc : TypeId × Value → H} {w : World}
theorem open_hashc {base : Nat} {spare : Nat → Bool} {held : Bool} {fuel : Nat} {cs : List Value} {x : DataW H × List MemPlace} (h : DataW.trod enc Tryd.prog w base spare held fuel 26 cs = some x) (hl : cs.length = 32) : ∃ b : List UInt8, cs = bts b ∧ b.length = 32 := by
  obtain ⟨xs, m, _, _, _, hxl, hxs⟩ := DataW.trod_array Tryd.underlying26 h
  have e1 : Tryd.prog.cellsOf 5 = 1 := by kernel_rfl
  obtain ⟨b, hb⟩ := bytes_of cs (fun i hi => by
    have f := hxs i (by omega)
    rw [e1, List.getElem?_eq_getElem (by omega)] at f
    obtain ⟨k, hk, _, hw⟩ := DataW.trod_int Tryd.underlying5 f
    obtain ⟨h1, h2⟩ := wf_u8 hw
    refine ⟨UInt8.ofNat k.toNat, ?_⟩
    have h0 : ((cs.drop (i * 1)).take 1)[0]? = some (.int .u8 k) := by rw [hk]; rfl
    rw [List.getElem?_take, if_pos (by omega), List.getElem?_drop] at h0
    simp only [Nat.mul_one, Nat.add_zero] at h0
    rw [h0]
    congr 2
    simp
    omega)
  exact ⟨b, hb, by rw [hb, bts_len] at hl; exact hl⟩
theorem open_hash {base b0 : Nat} {spare : Nat → Bool} {held : Bool} {r : Reach} {v : Value} {d : DataW H} {p : List MemPlace} (hv : Value.okWide Tryd.prog w r b0 26 v) (h : DataW.Trod enc Tryd.prog w base spare held 26 v d p) :
    ∃ x : List UInt8, v = .agg (bts x).toArray ∧ x.length = 32 := by
  obtain ⟨cs, rfl, hsz⟩ := okWide_array Tryd.underlying26 hv
  rw [show Tryd.prog.cellsOf 26 = 32 by kernel_rfl] at hsz
  obtain ⟨fuel, hf⟩ := h
  obtain ⟨x, hx, hl⟩ := open_hashc hf (by simpa [Value.cells] using hsz)
  simp only [Value.cells] at hx
  exact ⟨x, by rw [← hx], hl⟩
theorem open_str {base b0 : Nat} {spare : Nat → Bool} {held : Bool} {r : Reach} {v : Value} {d : DataW H} {p : List MemPlace} (hv : Value.okWide Tryd.prog w r b0 9 v) (h : DataW.Trod enc Tryd.prog w base spare held 9 v d p) :
    ∃ s : ByteArray, v = .string s := okWide_string Tryd.underlying9 hv
structure H32 where
  val : List UInt8
  h : val.length = 32
instance : Inhabited H32 := ⟨⟨List.replicate 32 0, rfl⟩⟩
theorem open_hs {base : Nat} {spare : Nat → Bool} {held : Bool} {fuel : Nat} {cs : List Value} {x : DataW H × List MemPlace} (h : DataW.trod enc Tryd.prog w base spare held fuel 39 cs = some x) :
    ∃ (A : Option Addr) (l : List (List UInt8)) (c : Nat), cs = [.slice A l.length c] ∧ l.length ≤ c ∧ c ≤ maxLen ∧ h32 l ∧ Sl w w.heap.size 32 A l.length (hCells l) := by
  obtain ⟨A, l, c, h1, h2, h3, h4, _⟩ := open_row (P := Tryd.prog) (β := H32) (fun b => bts b.val) (fun _ => True) (s := 32) (by omega) (fun b => by rw [bts_len, b.h]) (by kernel_rfl) Tryd.underlying39 (fun n cs' y hd _ => by
    have hl : cs'.length = 32 := by
      obtain ⟨xs, m, _, _, hlen, _, _⟩ := DataW.trod_array Tryd.underlying26 hd
      rw [hlen]
      kernel_rfl
    obtain ⟨b, e, hb⟩ := open_hashc hd hl
    exact ⟨⟨b, hb⟩, e, trivial⟩) h
  refine ⟨A, l.map H32.val, c, by simpa using h1, by simpa using h2, h3, fun a ha => ?_, ?_⟩
  · obtain ⟨b, _, rfl⟩ := List.mem_map.1 ha
    exact b.h
  · rw [List.length_map, hCells, List.flatMap_map]
    exact h4
theorem open_partc {base : Nat} {spare : Nat → Bool} {held : Bool} {fuel : Nat} {cs : List Value} {x : DataW H × List MemPlace} (h : DataW.trod enc Tryd.prog w base spare held fuel 41 cs = some x) : ∃ p : PartV, cs = p.cells ∧ p.good w := by
  obtain ⟨xs, n', _, _, hlen2, hxl, hfs⟩ := DataW.trod_struct Tryd.underlying41 h
  rw [show Tryd.prog.cellsOf 41 = 4 by kernel_rfl] at hlen2
  match cs, hlen2 with
  | [c0, c1, c2, c3], _ =>
    have ei : Tryd.prog.cellsOf 3 = 1 := by kernel_rfl
    have ee : Tryd.prog.cellsOf 31 = 2 := by kernel_rfl
    have eh : Tryd.prog.cellsOf 39 = 1 := by kernel_rfl
    have f0 : DataW.trod enc Tryd.prog w base spare held n' 3 (([c0, c1, c2, c3].drop 0).take (Tryd.prog.cellsOf 3)) = xs[0]? := hfs 0 _ rfl
    have f1 : DataW.trod enc Tryd.prog w base spare held n' 31 (([c0, c1, c2, c3].drop 1).take (Tryd.prog.cellsOf 31)) = xs[1]? := hfs 1 _ rfl
    have f2 : DataW.trod enc Tryd.prog w base spare held n' 39 (([c0, c1, c2, c3].drop 3).take (Tryd.prog.cellsOf 39)) = xs[2]? := hfs 2 _ rfl
    simp only [ei, ee, eh, List.drop_zero, List.drop_succ_cons, List.take_succ_cons, List.take_zero] at f0 f1 f2
    rw [List.getElem?_eq_getElem (by rw [hxl]; decide)] at f0 f1 f2
    obtain ⟨k0, hk0, _, w0⟩ := DataW.trod_int Tryd.underlying3 f0
    obtain ⟨e, he⟩ := open_ec f1
    obtain ⟨A, l, c, h1, h2, h3, h4, h5⟩ := open_hs f2
    have hb := bounds_i64 w0
    simp at hk0 h1
    simp only [eC] at he
    injection he with he1 he2
    injection he2 with he2 _
    subst hk0 h1 he1 he2
    exact ⟨⟨k0, e, A, l, c⟩, rfl, ⟨h2, h3, h4, hb.1, Int.lt_of_le_of_lt hb.2 (by decide), h5⟩⟩
theorem open_part {base b0 : Nat} {spare : Nat → Bool} {held : Bool} {r : Reach} {v : Value} {d : DataW H} {p : List MemPlace} (hv : Value.okWide Tryd.prog w r b0 41 v) (h : DataW.Trod enc Tryd.prog w base spare held 41 v d p) :
    ∃ q : PartV, v = .agg q.cells.toArray ∧ q.good w := by
  obtain ⟨cs, rfl, _⟩ := okWide_struct Tryd.underlying41 hv
  obtain ⟨fuel, hf⟩ := h
  obtain ⟨o, ho, hg⟩ := open_partc hf
  simp only [Value.cells] at ho
  exact ⟨o, by rw [← ho], hg⟩
structure ProofV where
  size : Int
  A : Option Addr
  ps : List PartV
  c : Nat
structure ProofV.good (q : ProofV) (w : World) : Prop where
  lo : -9223372036854775808 ≤ q.size
  hi : q.size < 9223372036854775808
  le : q.ps.length ≤ q.c
  cm : q.c ≤ maxLen
  sl : Sl w w.heap.size 4 q.A q.ps.length (pCells q.ps)
  gs : ∀ p ∈ q.ps, p.good w
instance : Inhabited PartV := ⟨⟨0, (noB, noB), none, [], 0⟩⟩
theorem open_proof {base b0 : Nat} {spare : Nat → Bool} {held : Bool} {r : Reach} {v : Value} {d : DataW H} {p : List MemPlace} (hv : Value.okWide Tryd.prog w r b0 38 v) (h : DataW.Trod enc Tryd.prog w base spare held 38 v d p) :
    ∃ q : ProofV, v = .agg #[.int .i64 q.size, .slice q.A q.ps.length q.c] ∧ q.good w := by
  obtain ⟨cs, rfl, _⟩ := okWide_struct Tryd.underlying38 hv
  obtain ⟨fuel, hf⟩ := h
  obtain ⟨xs, n', _, _, hlen2, hxl, hfs⟩ := DataW.trod_struct Tryd.underlying38 hf
  rw [show Tryd.prog.cellsOf 38 = 2 by kernel_rfl] at hlen2
  simp only [Value.cells] at hlen2 hfs
  obtain ⟨l, rfl⟩ : ∃ l : List Value, cs = l.toArray := ⟨cs.toList, by simp⟩
  match l, hlen2 with
  | [c0, c1], _ =>
    have ei : Tryd.prog.cellsOf 3 = 1 := by kernel_rfl
    have ep : Tryd.prog.cellsOf 36 = 1 := by kernel_rfl
    have f0 : DataW.trod enc Tryd.prog w base spare held n' 3 (([c0, c1].drop 0).take (Tryd.prog.cellsOf 3)) = xs[0]? := hfs 0 _ rfl
    have f1 : DataW.trod enc Tryd.prog w base spare held n' 36 (([c0, c1].drop 1).take (Tryd.prog.cellsOf 36)) = xs[1]? := hfs 1 _ rfl
    simp only [ei, ep, List.drop_zero, List.drop_succ_cons, List.take_succ_cons, List.take_zero] at f0 f1
    rw [List.getElem?_eq_getElem (by rw [hxl]; decide)] at f0 f1
    obtain ⟨k0, hk0, _, w0⟩ := DataW.trod_int Tryd.underlying3 f0
    obtain ⟨A, ps, c, h1, h2, h3, h4, h5⟩ := open_row (P := Tryd.prog) (β := PartV) PartV.cells (fun q => q.good w) (s := 4) (by omega) (fun b => rfl) (by kernel_rfl) Tryd.underlying36 (fun n cs' y hd _ => open_partc hd) f1
    have hb := bounds_i64 w0
    simp at hk0 h1
    subst hk0 h1
    exact ⟨⟨k0, A, ps, c⟩, rfl, ⟨hb.1, Int.lt_of_le_of_lt hb.2 (by decide), h2, h3, h4, h5⟩⟩
end
end Go.Proofs.YtdeikpifflkabaaDoor

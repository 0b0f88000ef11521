/- What this text proves: how a slice of fields reads that came in as an argument, and one field of it. No condition. -/
import Derived.Test.YtclnpglnomfjkaaDoorOwn
import Derived.Test.YtclnpglnomfjkaaDoorOpenRow
import Derived.Test.YtclnpglnomfjkaaDoorBytes
import Derived.Test.YtclnpglnomfjkaaDoorAgg
import Derived.ChangeMaps5
namespace Go.Proofs.YtclnpglnomfjkaaDoor
open Go.ChangeShapes Go.WideShapes Go.ChangeAt Go.RowKit Go.Deep
set_option linter.unusedVariables false
set_option linter.unusedSimpArgs false

structure Fd where
  kind : Int
  n : Int
  wd : Int
  h : List UInt8
  s : ByteArray
def Fd.good (f : Fd) : Prop := f.h.length = 32 ∧ (Lit.int .i64 f.n).wf = true ∧ (Lit.int .u64 f.wd).wf = true ∧ f.s.size ≤ maxLen
def Fd.cells (f : Fd) : List Value := .int .i64 f.kind :: .int .i64 f.n :: .int .u64 f.wd :: (bts f.h ++ [.string f.s])
theorem Fd.cells_len {f : Fd} (h : f.good) : f.cells.length = 36 := by simp [Fd.cells, bts_len, h.1]
abbrev FdG := { f : Fd // f.good }
instance : Inhabited FdG := ⟨⟨⟨0, 0, 0, List.replicate 32 0, ByteArray.empty⟩, by decide, by decide, by decide, by show 0 ≤ maxLen; unfold maxLen; omega⟩⟩
theorem bytes_of : ∀ cs : List Value, (∀ i, i < cs.length → ∃ u : UInt8, cs[i]? = some (.int .u8 (u.toNat : Int))) → ∃ h, cs = bts h
  | [], _ => ⟨[], rfl⟩
  | c :: cs, h => by
    obtain ⟨u, hu⟩ := h 0 (by simp)
    obtain ⟨l, hl⟩ := bytes_of cs (fun i hi => by
      have := h (i + 1) (by simpa using hi)
      simpa using this)
    simp at hu
    exact ⟨u :: l, by rw [hl, hu]; rfl⟩
section
variable {H : Type} {enc : TypeId × Value → H} {w : World}
theorem open_hashc {base : Nat} {spare : Nat → Bool} {held : Bool} {fuel : Nat} {cs : List Value} {x : DataW H × List MemPlace} (h : DataW.trod enc Tryd.prog w base spare held fuel 29 cs = some x) (hl : cs.length = 32) : ∃ b : List UInt8, cs = bts b ∧ b.length = 32 := by
  obtain ⟨xs, m, _, _, _, hxl, hxs⟩ := DataW.trod_array Tryd.underlying29 h
  have e1 : Tryd.prog.cellsOf 5 = 1 := by kernel_rfl
  obtain ⟨b, hb⟩ := bytes_of cs (fun i hi => by
    have f := hxs i (by omega)
    rw [e1, List.getElem?_eq_getElem (by omega)] at f
    obtain ⟨k, hk, _, hw⟩ := DataW.trod_int Tryd.underlying5 f
    obtain ⟨h1, h2⟩ := wf_u8 hw
    refine ⟨UInt8.ofNat k.toNat, ?_⟩
    have h0 : ((cs.drop (i * 1)).take 1)[0]? = some (.int .u8 k) := by rw [hk]; rfl
    rw [List.getElem?_take, if_pos (by omega), List.getElem?_drop] at h0
    simp only [Nat.mul_one, Nat.add_zero] at h0
    rw [h0]
    congr 2
    simp
    omega)
  exact ⟨b, hb, by rw [hb, bts_len] at hl; exact hl⟩
theorem open_fdc {base : Nat} {spare : Nat → Bool} {held : Bool} {fuel : Nat} {cs : List Value} {x : DataW H × List MemPlace} (h : DataW.trod enc Tryd.prog w base spare held fuel 31 cs = some x) : ∃ o : Fd, cs = o.cells ∧ o.good := by
  obtain ⟨xs, n', _, _, hlen2, hxl, hfs⟩ := DataW.trod_struct Tryd.underlying31 h
  rw [show Tryd.prog.cellsOf 31 = 36 by kernel_rfl] at hlen2
  have ei : Tryd.prog.cellsOf 3 = 1 := by kernel_rfl
  have eu : Tryd.prog.cellsOf 27 = 1 := by kernel_rfl
  have es : Tryd.prog.cellsOf 9 = 1 := by kernel_rfl
  have eh : Tryd.prog.cellsOf 29 = 32 := by kernel_rfl
  have f0 : DataW.trod enc Tryd.prog w base spare held n' 3 ((cs.drop 0).take (Tryd.prog.cellsOf 3)) = xs[0]? := hfs 0 _ rfl
  rw [ei, List.getElem?_eq_getElem (by rw [hxl]; decide)] at f0
  obtain ⟨k0, e0, _, w0⟩ := DataW.trod_int Tryd.underlying3 f0
  have f1 : DataW.trod enc Tryd.prog w base spare held n' 3 ((cs.drop 1).take (Tryd.prog.cellsOf 3)) = xs[1]? := hfs 1 _ rfl
  rw [ei, List.getElem?_eq_getElem (by rw [hxl]; decide)] at f1
  obtain ⟨k1, e1, _, w1⟩ := DataW.trod_int Tryd.underlying3 f1
  have f2 : DataW.trod enc Tryd.prog w base spare held n' 27 ((cs.drop 2).take (Tryd.prog.cellsOf 27)) = xs[2]? := hfs 2 _ rfl
  rw [eu, List.getElem?_eq_getElem (by rw [hxl]; decide)] at f2
  obtain ⟨k2, e2, _, w2⟩ := DataW.trod_int Tryd.underlying27 f2
  have f3 : DataW.trod enc Tryd.prog w base spare held n' 29 ((cs.drop 3).take (Tryd.prog.cellsOf 29)) = xs[3]? := hfs 3 _ rfl
  rw [eh, List.getElem?_eq_getElem (by rw [hxl]; decide)] at f3
  obtain ⟨b3, e3, w3⟩ := open_hashc f3 (by simp; omega)
  have f4 : DataW.trod enc Tryd.prog w base spare held n' 9 ((cs.drop 35).take (Tryd.prog.cellsOf 9)) = xs[4]? := hfs 4 _ rfl
  rw [es, List.getElem?_eq_getElem (by rw [hxl]; decide)] at f4
  obtain ⟨s4, e4, _, w4⟩ := DataW.trod_string Tryd.underlying9 f4
  have cut : ∀ a b c : Nat, a + b = c → cs.drop a = (cs.drop a).take b ++ cs.drop c := fun a b c e => by subst e; rw [← List.drop_drop, List.take_append_drop]
  have hz : cs.drop 36 = [] := List.drop_of_length_le (by omega)
  have hc : cs = cs.drop 0 := rfl
  refine ⟨⟨k0, k1, k2, b3, s4⟩, ?_, ⟨w3, w1, w2, w4⟩⟩
  rw [hc, cut 0 1 1 rfl, e0, cut 1 1 2 rfl, e1, cut 2 1 3 rfl, e2, cut 3 32 35 rfl, e3, cut 35 1 36 rfl, e4, hz]
  simp [Fd.cells]
theorem open_fd {base b0 : Nat} {spare : Nat → Bool} {held : Bool} {r : Reach} {v : Value} {d : DataW H} {p : List MemPlace} (hv : Value.okWide Tryd.prog w r b0 31 v) (h : DataW.Trod enc Tryd.prog w base spare held 31 v d p) :
    ∃ o : Fd, v = .agg o.cells.toArray ∧ o.good := by
  obtain ⟨cs, rfl, _⟩ := okWide_struct Tryd.underlying31 hv
  obtain ⟨fuel, hf⟩ := h
  obtain ⟨o, ho, hg⟩ := open_fdc hf
  simp only [Value.cells] at ho
  exact ⟨o, by rw [← ho], hg⟩
theorem flat_val (l : List FdG) : (l.flatMap fun i => i.val.cells) = ((l.map Subtype.val).flatMap Fd.cells) := by
  induction l with
  | nil => rfl
  | cons a l ih => simp only [List.flatMap_cons, List.map_cons, ih]
theorem open_fds {base b0 : Nat} {spare : Nat → Bool} {held : Bool} {r : Reach} {v : Value} {d : DataW H} {p : List MemPlace} (hv : Value.okWide Tryd.prog w r b0 22 v) (h : DataW.Trod enc Tryd.prog w base spare held 22 v d p) :
    ∃ (A : Option Addr) (l : List Fd) (c : Nat), v = .slice A l.length c ∧ l.length ≤ c ∧ c ≤ maxLen ∧ Sl w w.heap.size 36 A l.length (l.flatMap Fd.cells) ∧ ∀ i ∈ l, i.good := by
  obtain ⟨A, n, c, rfl⟩ := okWide_slice Tryd.underlying22 hv
  obtain ⟨fuel, hf⟩ := h
  obtain ⟨A', l, c', h1, h2, h3, h4, _⟩ := open_row (P := Tryd.prog) (β := FdG) (fun i => i.val.cells) (fun _ => True) (s := 36) (by omega) (fun b => Fd.cells_len b.2) (by kernel_rfl) Tryd.underlying22 (fun n cs' y hd _ => by
    obtain ⟨o, ho, hg⟩ := open_fdc hd
    exact ⟨⟨o, hg⟩, ho, trivial⟩) hf
  simp [Value.cells] at h1
  obtain ⟨rfl, rfl, rfl⟩ := h1
  refine ⟨A, l.map Subtype.val, c, by simp, by simpa using h2, h3, by rw [← flat_val]; simpa using h4, fun i hi => ?_⟩
  obtain ⟨j, _, rfl⟩ := List.mem_map.1 hi
  exact j.2
end

/-- One field of a slice. -/
structure FdAt (w : World) (b off : Nat) (f : Fd) : Prop where
  kind : w.cell? ⟨b, off, none⟩ = some (.int .i64 f.kind)
  n : w.cell? ⟨b, off + 1, none⟩ = some (.int .i64 f.n)
  wd : w.cell? ⟨b, off + 2, none⟩ = some (.int .u64 f.wd)
  h : w.rangeAt b (off + 3) (bts f.h)
  s : w.cell? ⟨b, off + 35, none⟩ = some (.string f.s)
theorem flat_fd {l : List Fd} (hg : ∀ i ∈ l, i.good) : ∀ (k : Nat) (f : Fd) (j : Nat), l[k]? = some f → j < 36 → (l.flatMap Fd.cells)[k * 36 + j]? = f.cells[j]? := by
  induction l with
  | nil => intro k f j h _; simp at h
  | cons a l ih =>
    intro k f j h hj
    have ha := Fd.cells_len (hg a (.head _))
    cases k with
    | zero =>
      simp at h
      subst h
      rw [List.flatMap_cons, List.getElem?_append_left (by rw [ha]; omega)]
      simp
    | succ k =>
      rw [List.flatMap_cons, List.getElem?_append_right (by rw [ha, Nat.add_mul]; omega), ha, show (k + 1) * 36 + j - 36 = k * 36 + j from by rw [Nat.add_mul]; omega]
      exact ih (fun i hi => hg i (.tail _ hi)) k f j (by simpa using h) hj
theorem fd_at {w : World} {B : Nat} {A : Option Addr} {l : List Fd} (h : Sl w B 36 A l.length (l.flatMap Fd.cells)) (hg : ∀ i ∈ l, i.good) {k : Nat} {f : Fd} (hk : l[k]? = some f) : ∃ b off, A = some ⟨b, off, none⟩ ∧ b < B ∧ FdAt w b (off + k * 36) f := by
  obtain ⟨hlt, _⟩ := List.getElem?_eq_some_iff.1 hk
  obtain ⟨b, off, hA, hb, hc⟩ := h.at_ (by omega)
  have hfl := (hg f (List.mem_of_getElem? hk)).1
  have at_ : ∀ j v, j < 36 → f.cells[j]? = some v → w.cell? ⟨b, off + k * 36 + j, none⟩ = some v := fun j v hj hv => by
    rw [Nat.add_assoc]
    exact hc _ _ ((flat_fd hg k f j hk hj).trans hv)
  refine ⟨b, off, hA, hb, ⟨at_ 0 _ (by omega) rfl, at_ 1 _ (by omega) rfl, at_ 2 _ (by omega) rfl, ?_, ?_⟩⟩
  · intro j v hj
    have hj32 : j < 32 := by have := (List.getElem?_eq_some_iff.1 hj).1; rw [bts_len, hfl] at this; exact this
    rw [Nat.add_assoc (off + k * 36) 3 j]
    refine at_ (3 + j) v (by omega) ?_
    simp only [Fd.cells, Nat.add_comm 3 j, List.getElem?_cons_succ]
    rw [List.getElem?_append_left (by rw [bts_len, hfl]; exact hj32)]
    exact hj
  · refine at_ 35 _ (by omega) ?_
    simp only [Fd.cells, List.getElem?_cons_succ]
    rw [List.getElem?_append_right (by rw [bts_len, hfl]; omega), bts_len, hfl]
    rfl
end Go.Proofs.YtclnpglnomfjkaaDoor

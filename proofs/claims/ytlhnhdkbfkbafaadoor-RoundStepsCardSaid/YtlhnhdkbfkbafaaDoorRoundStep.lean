/- What this text proves: the contract of a height's step: the state behind an input, and what is said. The conditions are that hashes have 32 bytes, and that the package's empty hash is empty. -/
import Derived.Test.YtlhnhdkbfkbafaaDoorRoundAll
namespace Go.Proofs.YtlhnhdkbfkbafaaDoor
open Go.RowKit
set_option linter.unusedVariables false
set_option linter.unusedSimpArgs false

def stepF (s : St) (i : In) : St × Option Out :=
  if i.round < 0 ∨ 1048576 < i.round ∨ s.step = 4 then (s, none)
  else if i.kind = 1 ∧ s.round < i.round then ({s with round := i.round, step := 1}, some (beginOut s i))
  else if i.kind = 9 ∧ s.round < i.round then (s, some ⟨7, i.round, zeros, 0⟩)
  else if i.kind = 8 ∧ i.good = true ∧ i.block ≠ zeros then ({s with block := i.block, step := 4}, some ⟨8, i.round, i.block, 0⟩)
  else if i.round = s.round then nowF s i
  else (s, none)
def StepTold (w : World) (r : St × Option Out) (e : Ending) (w' : World) : Prop :=
  ∃ v, e = .returned (.tuple #[.agg r.1.cells.toArray, v]) ∧ OutAt w' w.heap.size v r.2 ∧ Below w.heap.size w w'

def St.zero : St := ⟨0, 0, zeros, 0, zeros, 0, zeros, 0, 0⟩
theorem St.zero_good : St.zero.good := ⟨zeros_len, zeros_len, zeros_len⟩
theorem zero_state (w : World) : (zeroValue 25).run Tryd.prog w = .ok (.agg St.zero.cells.toArray) w := by
  have h : (Tryd.prog.info? 25).map (·.zero) = some (some (.agg St.zero.cells.toArray)) := by kernel_rfl
  cases hq : Tryd.prog.info? 25 with
  | none => rw [hq] at h; cases h
  | some i =>
    rw [hq] at h
    have h2 : i.zero = some (.agg St.zero.cells.toArray) := by simpa using h
    simp [zeroValue, typeInfo, hq, h2, Sem.run_bind]
theorem St.one_cells {s : St} : s.cells.toArray.all (·.oneCell') = true := by
  refine all_oneCell_toArray fun v hv => ?_
  simp only [St.cells, List.mem_cons, List.mem_append, List.not_mem_nil, or_false] at hv
  rcases hv with rfl | rfl | hv | rfl | hv | rfl | hv | rfl | rfl
  all_goals first | rfl | exact bts_one v hv

theorem agreedF_good {s : St} {i : In} (hs : s.good) (hi : i.fits) : (agreedF s i).1.good := by
  unfold agreedF
  split <;> exact ⟨by first | exact hi.block | exact hs.locked, hi.block, hs.block⟩
theorem lateF_good {s : St} {i : In} (hs : s.good) : (lateF s i).1.good := by
  unfold lateF
  split
  · exact hs
  · split
    · exact ⟨hs.locked, hs.valid, hs.block⟩
    · split <;> exact hs
theorem lockF_good {s : St} {i : In} (hs : s.good) (hi : i.fits) : (lockF s i).1.good := by
  unfold lockF
  split
  · exact agreedF_good hs hi
  · exact lateF_good hs
theorem prevF_good {s : St} {i : In} {b : Bool} (hs : s.good) : (prevF s i b).1.good := ⟨hs.locked, hs.valid, hs.block⟩
theorem precF_good {s : St} {h : List UInt8} (hs : s.good) : (precF s h).1.good := ⟨hs.locked, hs.valid, hs.block⟩
theorem nowF_good {s : St} {i : In} (hs : s.good) (hi : i.fits) : (nowF s i).1.good := by
  unfold nowF
  repeat' split
  all_goals first | exact prevF_good hs | exact precF_good hs | exact lateF_good hs | exact lockF_good hs hi | exact ⟨hs.locked, hs.valid, hs.block⟩
theorem put_all {cs vs : List Value} (h : vs.length = cs.length) : put cs 0 vs = vs := by simp [put, h]
theorem Bk.all {w : World} {g : Nat} {t : TypeId} {cs : List Value} (h : Bk w g t cs.toArray) : w.rangeAt g 0 cs := h.seg 0 [] cs [] (by simp) rfl
theorem OutAt.moves {w w' : World} {N g : Nat} {v : Value} {oo : Option Out} (h : OutAt w N v oo) (hm : Moves (fun k _ => k = g) w w') (hg : g < N) : OutAt w' N v oo := by
  cases oo with
  | none => exact h
  | some o =>
    obtain ⟨b, h1, h2, h3⟩ := h
    exact ⟨b, h1, h2, hm.bk h3 (by omega)⟩
theorem step_end {w W w7 : World} {gr N : Nat} {s' : St} {oo : Option Out} {v : Value} {r : St × Option Out} (ho : OutAt W N v oo) (hN : gr < N) (hw : w.heap.size ≤ gr) (hm : Moves (fun k _ => k = gr) W w7) (hB : Below w.heap.size w W) (he : r = (s', oo)) :
    StepTold w r (.returned (.tuple #[.agg s'.cells.toArray, v])) w7 := by
  subst he
  exact ⟨v, rfl, (ho.moves hm hN).less (by omega), hB.trans (hm.to_below hB.size (fun k _ e => by omega))⟩
theorem step_results {tmps : Array Value} {w : World} {g : Nat} {s : St} {v : Value} (hs : s.good) (hb : Bk w g 25 s.cells.toArray) (hp : tmps.getD 4 undef = .pointer (some ⟨g, 0, none⟩)) (hv : tmps.getD 5 undef = v) :
    (results Tryd.f10 tmps).run Tryd.prog w = .ok (.tuple #[.agg s.cells.toArray, v]) w := by
  have hl := run_loadVar_mid (P := Tryd.prog) w g 0 25 s.cells _ hb.all Tryd.underlying25 rfl (by rw [hi_state, St.cells_len hs])
  have h : Tryd.f10.results = #[.cell 4 25, .tmp 5] := rfl
  have hp' : tmps[4]?.getD undef = .pointer (some ⟨g, 0, none⟩) := by simpa using hp
  have hv' : tmps[5]?.getD undef = v := by simpa using hv
  simp [results, h, hp', hv', asAddr, hl]
end Go.Proofs.YtlhnhdkbfkbafaaDoor

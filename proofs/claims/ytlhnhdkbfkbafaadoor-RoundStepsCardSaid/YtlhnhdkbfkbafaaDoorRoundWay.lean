/- What this text proves: plain facts on the step of a height as a function: each way that it may go, and what the laws of this layer carry from step to step. No condition. -/
import Derived.Test.YtlhnhdkbfkbafaaDoorRoundAlive
namespace Go.Proofs.YtlhnhdkbfkbafaaDoor
set_option linter.unusedVariables false
set_option linter.unusedSimpArgs false

/-- What a step may be: each way of it. -/
inductive Way (s : St) (i : In) : St × Option Out → Prop
  | none : Way s i (s, none)
  | begin (b : List UInt8) (v : Int) (h0 : 0 ≤ i.round) (h1 : i.kind = 1) (h2 : s.round < i.round) (h3 : s.step ≠ 4) (h4 : i.own ≠ zeros) (h5 : (0 ≤ s.vr ∧ b = s.valid ∧ v = s.vr) ∨ (s.vr < 0 ∧ b = i.own ∧ v = -1)) : Way s i ({s with round := i.round, step := 1}, some ⟨1, i.round, b, v⟩)
  | wait (h0 : 0 ≤ i.round) (h1 : i.kind = 1) (h2 : s.round < i.round) (h3 : s.step ≠ 4) : Way s i ({s with round := i.round, step := 1}, some ⟨4, i.round, zeros, 0⟩)
  | later (r : Int) (h : s.step ≠ 4) : Way s i (s, some ⟨7, r, zeros, 0⟩)
  | decided (h1 : i.kind = 8) (h2 : i.good = true) (h3 : i.block ≠ zeros) (h4 : s.step ≠ 4) : Way s i ({s with block := i.block, step := 4}, some ⟨8, i.round, i.block, 0⟩)
  | prevote (b : List UInt8) (h0 : 0 ≤ s.round) (h1 : i.round = s.round) (h2 : s.step = 1) (h3 : b = zeros ∨ (b = i.block ∧ (s.lr < 0 ∨ b = s.locked ∨ (i.kind = 3 ∧ s.lr ≤ i.valid ∧ i.valid < i.round)))) : Way s i ({s with step := 2}, some ⟨2, i.round, b, 0⟩)
  | precommit (h0 : 0 ≤ s.round) (h1 : i.round = s.round) (h2 : s.step = 2) : Way s i ({s with step := 3}, some ⟨3, s.round, zeros, 0⟩)
  | lock (h0 : 0 ≤ s.round) (h1 : i.round = s.round) (h2 : s.step = 2) (h3 : i.kind = 5) (h4 : i.good = true) (h5 : i.block ≠ zeros) (h6 : s.vr < i.round) : Way s i ({s with valid := i.block, vr := i.round, locked := i.block, lr := i.round, step := 3}, some ⟨3, s.round, i.block, 0⟩)
  | agreed (h0 : 0 ≤ s.round) (h1 : i.round = s.round) (h2 : s.step = 3) (h3 : i.kind = 5) (h4 : i.good = true) (h5 : i.block ≠ zeros) (h6 : s.vr < i.round) : Way s i ({s with valid := i.block, vr := i.round}, none)
  | waits (h0 : 0 ≤ s.round) (h1 : i.round = s.round) (h2 : s.step = 2) (h3 : s.waits < i.round) : Way s i ({s with waits := i.round}, some ⟨5, i.round, zeros, 0⟩)
  | waited (h0 : 0 ≤ s.round) (h1 : i.round = s.round) (h2 : 1 ≤ s.step ∧ s.step ≤ 3) (h3 : s.waited < i.round) : Way s i ({s with waited := i.round}, some ⟨6, i.round, zeros, 0⟩)

theorem way_late {s : St} {i : In} (h0 : 0 ≤ s.round) (h1 : i.round = s.round) (h4 : s.step ≠ 4) : Way s i (lateF s i) := by
  unfold lateF
  split
  · exact .none
  · rename_i h
    split
    · rename_i h7; exact .waited h0 h1 (by omega) h7.2
    · split
      · exact .later _ h4
      · exact .none
theorem way_lock {s : St} {i : In} (h0 : 0 ≤ s.round) (h1 : i.round = s.round) (hs : s.step = 2 ∨ s.step = 3) : Way s i (lockF s i) := by
  unfold lockF
  split
  · rename_i h
    obtain ⟨a, b, c, d⟩ := h
    unfold agreedF
    by_cases e : s.step = 2
    · rw [if_pos e, if_pos e]; exact .lock h0 h1 e a b c d
    · rw [if_neg e, if_neg e]; exact .agreed h0 h1 (by omega) a b c d
  · exact way_late h0 h1 (by omega)
theorem way_prev {s : St} {i : In} {may : Bool} (h0 : 0 ≤ s.round) (h1 : i.round = s.round) (hs : s.step = 1) (hm : may = true → (s.lr < 0 ∨ i.block = s.locked ∨ (i.kind = 3 ∧ s.lr ≤ i.valid ∧ i.valid < i.round))) : Way s i (prevF s i may) := by
  refine .prevote _ h0 h1 hs ?_
  cases may with
  | false => exact .inl (by simp)
  | true =>
    cases hg : i.good with
    | false => exact .inl (by simp)
    | true => exact .inr (by simpa using hm rfl)
theorem way_now {s : St} {i : In} (h0 : 0 ≤ s.round) (h1 : i.round = s.round) (h4 : s.step ≠ 4) : Way s i (nowF s i) := by
  unfold nowF
  by_cases s1 : s.step = 1
  · rw [if_pos s1]
    split
    · exact way_prev h0 h1 s1 (fun h => by
        rw [Bool.or_eq_true, decide_eq_true_eq, beq_iff_eq] at h
        rcases h with h | h
        · exact .inl h
        · exact .inr (.inl h))
    · split
      · rename_i h3
        split
        · rename_i hv
          exact way_prev h0 h1 s1 (fun h => by
            rw [Bool.or_eq_true, decide_eq_true_eq, beq_iff_eq] at h
            rcases h with h | h
            · exact .inr (.inr ⟨h3, h, hv.2⟩)
            · exact .inr (.inl h))
        · exact way_late h0 h1 h4
      · split
        · exact way_prev h0 h1 s1 (fun h => by cases h)
        · exact way_late h0 h1 h4
  · rw [if_neg s1]
    by_cases s2 : s.step = 2
    · rw [if_pos s2]
      split
      · split
        · rename_i h; exact .waits h0 h1 s2 h
        · exact way_lock h0 h1 (.inl s2)
      · split
        · exact .precommit h0 h1 s2
        · exact way_lock h0 h1 (.inl s2)
    · rw [if_neg s2]
      split
      · rename_i s3; exact way_lock h0 h1 (.inr s3)
      · exact way_late h0 h1 h4
theorem way_step (s : St) (i : In) : Way s i (stepF s i) := by
  unfold stepF
  by_cases hq : i.round < 0 ∨ 1048576 < i.round ∨ s.step = 4
  · rw [if_pos hq]; exact .none
  rw [if_neg hq]
  have h4 : s.step ≠ 4 := fun h => hq (.inr (.inr h))
  have h0 : 0 ≤ i.round := by
    rcases Int.lt_or_le i.round 0 with h | h
    · exact absurd (.inl h) hq
    · exact h
  split
  · rename_i hb
    unfold beginOut
    by_cases ho : i.own = zeros
    · rw [if_pos ho]; exact .wait h0 hb.1 hb.2 h4
    rw [if_neg ho]
    by_cases hv : 0 ≤ s.vr
    · rw [if_pos hv]; exact .begin _ _ h0 hb.1 hb.2 h4 ho (.inl ⟨hv, rfl, rfl⟩)
    · rw [if_neg hv]; exact .begin _ _ h0 hb.1 hb.2 h4 ho (.inr ⟨by omega, rfl, rfl⟩)
  · split
    · exact .later _ h4
    · split
      · rename_i h; exact .decided h.1 h.2.1 h.2.2 h4
      · split
        · rename_i h; exact way_now (by omega) h h4
        · exact .none
theorem step_done {s : St} {i : In} (h : s.step = 4) : stepF s i = (s, none) := by
  unfold stepF
  rw [if_pos (.inr (.inr h))]

/-- RoundOnce: what holds of the rounds of what was said last. -/
structure OnceI (s : St) (a b c : Int) : Prop where
  ha : a ≤ s.round
  hb : b ≤ s.round
  hc : c ≤ s.round
  b1 : s.step = 1 → b < s.round
  c1 : s.step = 1 ∨ s.step = 2 → c < s.round
theorem OnceI.new : OnceI St.new (-1) (-1) (-1) := by
  refine ⟨?_, ?_, ?_, ?_, ?_⟩ <;> simp [St.new]
theorem OnceI.step {s t : St} {i : In} {oo : Option Out} {a b c : Int} (h : OnceI s a b c) (hw : Way s i (t, oo)) :
    s.round ≤ t.round ∧ match (generalizing := false) oo with
      | none => OnceI t a b c
      | some o => (o.kind < 1 ∨ 3 < o.kind) ∧ OnceI t a b c ∨ o.kind = 1 ∧ a < o.round ∧ o.round = t.round ∧ OnceI t o.round b c ∨ o.kind = 2 ∧ b < o.round ∧ o.round = t.round ∧ OnceI t a o.round c ∨ o.kind = 3 ∧ c < o.round ∧ o.round = t.round ∧ OnceI t a b o.round := by
  obtain ⟨ha, hb, hc, hb1, hc1⟩ := h
  cases hw <;> refine ⟨by simp <;> omega, ?_⟩
  case none => exact ⟨ha, hb, hc, hb1, hc1⟩
  case begin => exact .inr (.inl ⟨rfl, by simp; omega, rfl, by refine ⟨?_, ?_, ?_, ?_, ?_⟩ <;> simp <;> omega⟩)
  case wait => exact .inl ⟨by simp, by refine ⟨?_, ?_, ?_, ?_, ?_⟩ <;> simp <;> omega⟩
  case later => exact .inl ⟨by simp, ⟨ha, hb, hc, hb1, hc1⟩⟩
  case decided => exact .inl ⟨by simp, by refine ⟨?_, ?_, ?_, ?_, ?_⟩ <;> simp <;> omega⟩
  case prevote => exact .inr (.inr (.inl ⟨rfl, by simp; omega, by simp; omega, by refine ⟨?_, ?_, ?_, ?_, ?_⟩ <;> simp <;> omega⟩))
  case precommit => exact .inr (.inr (.inr ⟨rfl, by simp; omega, by simp, by refine ⟨?_, ?_, ?_, ?_, ?_⟩ <;> simp <;> omega⟩))
  case lock => exact .inr (.inr (.inr ⟨rfl, by simp; omega, by simp, by refine ⟨?_, ?_, ?_, ?_, ?_⟩ <;> simp <;> omega⟩))
  case agreed => exact ⟨ha, hb, hc, hb1, hc1⟩
  case waits => exact .inl ⟨by simp, ⟨ha, hb, hc, hb1, hc1⟩⟩
  case waited => exact .inl ⟨by simp, ⟨ha, hb, hc, hb1, hc1⟩⟩

/-- RoundLocks: nothing is locked ahead of the first precommit for a block. -/
structure LockI (s : St) (locked : List UInt8) (at_ : Int) : Prop where
  l : s.locked = locked
  r : s.lr = at_
theorem LockI.new : LockI St.new zeros (-1) := ⟨rfl, rfl⟩
theorem LockI.step {s t : St} {i : In} {oo : Option Out} {l : List UInt8} {a : Int} (h : LockI s l a) (hw : Way s i (t, oo)) :
    match (generalizing := false) oo with
      | none => LockI t l a
      | some o => o.block = zeros ∧ LockI t l a ∨ o.block ≠ zeros ∧ (o.kind = 3 ∧ i.kind = 5 ∧ i.round = o.round ∧ i.block = o.block ∧ i.good = true ∧ LockI t o.block o.round ∨ o.kind = 2 ∧ (a < 0 ∨ o.block = l ∨ (i.kind = 3 ∧ a ≤ i.valid ∧ i.valid < o.round ∧ i.block = o.block)) ∧ LockI t l a ∨ o.kind ≠ 2 ∧ o.kind ≠ 3 ∧ LockI t l a) := by
  obtain ⟨rfl, rfl⟩ := h
  cases hw
  case none => exact ⟨rfl, rfl⟩
  case agreed => exact ⟨rfl, rfl⟩
  case lock h0 h1 h2 h3 h4 h5 h6 => exact .inr ⟨h5, .inl ⟨rfl, h3, h1, rfl, h4, ⟨rfl, h1⟩⟩⟩
  case prevote b h0 h1 h2 h3 =>
    by_cases hz : b = zeros
    · exact .inl ⟨hz, rfl, rfl⟩
    · refine .inr ⟨hz, .inr (.inl ⟨rfl, ?_, rfl, rfl⟩)⟩
      rcases h3 with h | ⟨hb, h | h | h⟩
      · exact absurd h hz
      · exact .inl h
      · exact .inr (.inl h)
      · exact .inr (.inr ⟨h.1, h.2.1, h.2.2, hb.symm⟩)
  all_goals
    rename_i h
    first
      | exact .inl ⟨rfl, rfl, rfl⟩
      | (refine (Classical.em _).imp (fun e => ⟨e, rfl, rfl⟩) (fun e => ⟨e, .inr (.inr ⟨by simp, by simp, rfl, rfl⟩)⟩))

/-- RoundEnds. -/
structure EndI (s : St) (done : Bool) : Prop where
  d : done = true → s.step = 4
  n : done = false → s.block = zeros
theorem EndI.not {s : St} (h : s.block = zeros) : EndI s false := ⟨(fun h => by cases h), fun _ => h⟩
theorem EndI.new : EndI St.new false := .not rfl
theorem EndI.step {s t : St} {i : In} {oo : Option Out} (h : EndI s false) (hw : Way s i (t, oo)) :
    match (generalizing := false) oo with
      | none => EndI t false
      | some o => o.kind ≠ 8 ∧ EndI t false ∨ o.kind = 8 ∧ i.kind = 8 ∧ o.block = i.block ∧ t.block = i.block ∧ i.good = true ∧ EndI t true := by
  obtain ⟨_, hn⟩ := h
  have hn := hn rfl
  cases hw
  case none => exact .not hn
  case agreed => exact .not hn
  case decided h1 h2 h3 h4 => exact .inr ⟨rfl, h1, rfl, rfl, h2, ⟨(fun _ => rfl), (fun h => by cases h)⟩⟩
  all_goals exact .inl ⟨by simp, .not hn⟩

/-- RoundValid. -/
structure ValidI (s : St) : Prop where
  v : s.vr ≤ s.round
  l : s.lr ≤ s.vr
theorem ValidI.new : ValidI St.new := by constructor <;> simp [St.new]
/-- What the law asks behind a step, but for what is said. -/
structure ValidQ (s t : St) (i : In) : Prop where
  v : t.vr = s.vr ∨ (t.vr ≠ s.vr ∧ t.vr = t.round ∧ i.kind = 5 ∧ t.valid = i.block ∧ s.vr ≤ t.vr)
  l : t.lr ≤ t.vr
  e : t.lr = s.lr ∨ (t.lr ≠ s.lr ∧ t.locked = t.valid)
theorem ValidI.step {s t : St} {i : In} {oo : Option Out} (h : ValidI s) (hw : Way s i (t, oo)) :
    ValidI t ∧ ValidQ s t i ∧ match (generalizing := false) oo with
      | none => True
      | some o => o.kind ≠ 1 ∨ o.kind = 1 ∧ o.valid < o.round ∧ (0 ≤ s.vr ∧ o.block = s.valid ∧ o.valid = s.vr ∨ s.vr < 0 ∧ o.block = i.own ∧ o.valid = -1 ∧ o.block ≠ zeros) := by
  obtain ⟨hv, hl⟩ := h
  cases hw
  case lock h0 h1 h2 h3 h4 h5 h6 =>
    refine ⟨by constructor <;> simp <;> omega, ⟨.inr ⟨by simp; omega, h1, h3, rfl, by simp; omega⟩, by simp, ?_⟩, .inl (by simp)⟩
    by_cases e : i.round = s.lr
    · exact .inl e
    · exact .inr ⟨e, rfl⟩
  case agreed h0 h1 h2 h3 h4 h5 h6 => exact ⟨by constructor <;> simp <;> omega, ⟨.inr ⟨by simp; omega, h1, h3, rfl, by simp; omega⟩, by simp; omega, .inl rfl⟩, trivial⟩
  case begin b v h0 h1 h2 h3 h4 h5 =>
    refine ⟨by constructor <;> simp <;> omega, ⟨.inl rfl, hl, .inl rfl⟩, .inr ⟨rfl, ?_, ?_⟩⟩
    · rcases h5 with h | h <;> simp <;> omega
    · rcases h5 with ⟨h, rfl, rfl⟩ | ⟨h, rfl, rfl⟩
      · exact .inl ⟨h, rfl, rfl⟩
      · exact .inr ⟨h, rfl, rfl, h4⟩
  case none => exact ⟨⟨hv, hl⟩, ⟨.inl rfl, hl, .inl rfl⟩, trivial⟩
  all_goals exact ⟨by constructor <;> (try simp) <;> omega, ⟨.inl rfl, hl, .inl rfl⟩, .inl (by simp)⟩

/-- RoundWaits. -/
structure WaitI (s : St) (a b c : Int) : Prop where
  ha : a ≤ s.round
  hb : b ≤ s.waits
  hc : c ≤ s.waited
theorem WaitI.new : WaitI St.new (-1) (-1) (-1) := by constructor <;> simp [St.new]
theorem WaitI.step {s t : St} {i : In} {oo : Option Out} {a b c : Int} (h : WaitI s a b c) (hw : Way s i (t, oo)) :
    match (generalizing := false) oo with
      | none => WaitI t a b c
      | some o => (o.kind < 4 ∨ 6 < o.kind) ∧ WaitI t a b c ∨ o.kind = 4 ∧ a < o.round ∧ o.round = t.round ∧ i.kind = 1 ∧ WaitI t o.round b c ∨ o.kind = 5 ∧ b < o.round ∧ o.round = t.round ∧ s.step = 2 ∧ WaitI t a o.round c ∨ o.kind = 6 ∧ c < o.round ∧ o.round = t.round ∧ WaitI t a b o.round := by
  obtain ⟨ha, hb, hc⟩ := h
  cases hw
  case none => exact ⟨ha, hb, hc⟩
  case agreed => exact ⟨ha, hb, hc⟩
  case wait h0 h1 h2 h3 => exact .inr (.inl ⟨rfl, by simp; omega, rfl, h1, by constructor <;> simp <;> omega⟩)
  case waits h0 h1 h2 h3 => exact .inr (.inr (.inl ⟨rfl, by simp; omega, h1, h2, by constructor <;> simp <;> omega⟩))
  case waited h0 h1 h2 h3 => exact .inr (.inr (.inr ⟨rfl, by simp; omega, h1, by constructor <;> simp <;> omega⟩))
  all_goals exact .inl ⟨by simp, by constructor <;> (try simp) <;> omega⟩
end Go.Proofs.YtlhnhdkbfkbafaaDoor

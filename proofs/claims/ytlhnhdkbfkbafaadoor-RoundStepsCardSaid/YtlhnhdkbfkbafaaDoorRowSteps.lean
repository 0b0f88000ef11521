/- What this text proves: the statement RoundSteps: for every state and input the law returns true and leaves its arguments as they were. No condition. -/
import Derived.Test.YtlhnhdkbfkbafaaDoorRows
import Derived.Test.YtlhnhdkbfkbafaaDoorRoundSteps
import Derived.Test.YtlhnhdkbfkbafaaDoorRoundLoop
import Derived.Test.YtlhnhdkbfkbafaaDoorOpenRound
import Derived.ProofKit
import Derived.OpenShut
import Derived.ChangeOld
import Derived.LaidLaws
import Derived.Lib.LaidU8
namespace Go.Proofs.YtlhnhdkbfkbafaaDoor.roundSteps
open Go.ChangeShapes Go.WideShapes Go.ChangeAt Go.RowKit
set_option linter.unusedVariables false
set_option linter.unusedSimpArgs false

theorem own : ownKnob Tryd.prog.godebug = none := by kernel_rfl
theorem laidOut : laidOutB Tryd.prog = true := by kernel_rfl
theorem none_named : Tryd.prog.globalNamed "nuncio/round.none" = some 0 := by kernel_rfl
theorem none_of_laid {W : World} (h : laidMetH Tryd.prog Rows.roundStepsRow.laid W) : None0 W := by
  have h' : laidMet Tryd.prog Rows.roundStepsRow.laid W := h
  obtain ⟨g, t, cs, fuel, p, hg, ht, hv, hd⟩ := Lib.laidMet.reads h' (.head _)
  obtain rfl : g = 0 := Option.some.inj (hg.symm.trans none_named)
  obtain rfl : t = 23 := Option.some.inj (ht.symm.trans (show (Tryd.prog.globals[0]?).map (·.type) = some 23 by kernel_rfl))
  intro j v hj
  have hj32 : j < 32 := by
    have := (List.getElem?_eq_some_iff.1 hj).1
    rwa [bts_len, zeros_len] at this
  obtain ⟨f', d, q, h1, h2⟩ := Lib.array_elem Tryd.underlying23 hd j hj32
  rw [show Tryd.prog.cellsOf 5 = 1 by kernel_rfl] at h2
  obtain ⟨k, hk, hdk, _⟩ := DataW.trod_int Tryd.underlying5 h2
  have hall : ∀ j < 32, ((List.replicate 32 (DataW.lit (.int .u8 0)) : List (DataW Unit))[j]?) = some (.lit (.int .u8 0)) := fun j hj => by rw [List.getElem?_replicate, if_pos hj]
  have h1' : some (DataW.lit (.int .u8 0) : DataW Unit) = some d := (hall j hj32).symm.trans h1
  have hk0 : k = 0 := by
    have e := Option.some.inj h1'
    have e2 := e.trans (congrArg Prod.fst hdk)
    simpa using e2.symm
  have hc : cs[j]? = some (.int .u8 k) := by
    have h0 : ((cs.toList.drop (j * 1)).take 1)[0]? = some (.int .u8 k) := by rw [hk]; rfl
    rw [List.getElem?_take, if_pos (by omega), List.getElem?_drop] at h0
    simpa using h0
  have hv0 : v = .int .u8 0 := by
    have e : (bts zeros)[j]? = some (.int .u8 0) := by rw [show bts zeros = List.replicate 32 (Value.int .u8 0) from rfl, List.getElem?_replicate, if_pos hj32]
    rw [e] at hj
    exact (Option.some.inj hj).symm
  rw [World.var?_cell none_named hv, Nat.zero_add, hc, hk0, hv0]
theorem walk (s : St) (i : In) (hs : s.good) (hi : i.fits) (w : World) (hn : None0 w) : Calls Tryd.prog 3 #[.agg s.cells.toArray, .agg i.cells.toArray] w fun e w' => e = .returned (.bool true) ∧ Below w.heap.size w w' :=
  steps_any s i w hs hi hn (stepF_good hs hi) (fun o h => way_fits (t := (stepF s i).1) hs hi (by have := way_step s i; rw [show stepF s i = ((stepF s i).1, some o) from Prod.ext rfl h] at this; exact this))
theorem laid_holds (os : Os) (args : Array Value) : laidMetH Tryd.prog Rows.roundStepsRow.laid ((World.holding Tryd.prog os ⟨#[], #[], []⟩).forCall (fun _ _ => 0) ⟨#[], args, []⟩).memory :=
  laidMet_of_run' 8 (by kernel_rfl) (by kernel_rfl)
set_option maxRecDepth 100000 in
theorem lifted (os : Os) (started : os.Started) (H : Type) (enc : TypeId × Value → H) :
    ReturnsInHanded {} Tryd.checked os 3 .any (fun w args => (Rows.roundStepsSpec.pre enc Tryd.prog Tryd.f3 [] false w args ∧ laidMetH Tryd.prog Rows.roundStepsRow.laid w) ∧ sizedMet enc Tryd.prog Tryd.f3 (OpenSpec.ofChange Rows.roundStepsSpec) false w args)
      (Rows.roundStepsSpec.post enc Tryd.prog Tryd.f3 false true false false) := by
  refine returnsInHanded_of_change_and (C := Tryd.checked) (X := fun w _ => laidMetH Tryd.prog Rows.roundStepsRow.laid w) (fun _ _ _ hh h => h.of_heap hh) own started (by kernel_rfl) Tryd.func3
    (ChangeSpec.witness_at (enc := enc) (C := Tryd.checked) (os := os) (X := fun w _ => laidMetH Tryd.prog Rows.roundStepsRow.laid w) false (World.holding Tryd.prog os ⟨#[], #[], []⟩) #[.agg St.zero.cells.toArray, .agg (In.cells ⟨0, 0, zeros, 0, false, zeros⟩).toArray] 8 rfl (by kernel_rfl) (by kernel_rfl) (by kernel_rfl) (by kernel_rfl) (by kernel_rfl) (laid_holds os _)) ?_
  intro W base args ds gs before hval0 hW _ _ hL _
  have hval : ∀ (j : Nat) t v, Tryd.f3.params[j]? = some t → args[j]? = some v → Value.okWide Tryd.prog W .any base t v := hval0
  have hW' := hW
  obtain ⟨p, q, hA0, hV, rfl, hfz, hnd⟩ := hW
  have hA : DataW.TrodAll enc Tryd.prog W 0 (fun _ => true) true Tryd.f3.params.toList args.toList ds p := hA0
  rw [Tryd.params3] at hA hval
  obtain ⟨v0, vs0, d0, ds0, p0, q0, hargs, rfl, rfl, h0, r0⟩ := trodAll_cons hA
  obtain ⟨v1, vs1, d1, ds1, p1, q1, rfl, rfl, rfl, h1, r1⟩ := trodAll_cons r0
  obtain ⟨rfl, rfl, rfl⟩ := trodAll_nil r1
  obtain rfl : args = #[v0, v1] := by cases args; simp_all
  obtain ⟨rfl, rfl⟩ := trodVars_none hV
  have k0 := h0
  have lt0 : ∀ x ∈ p0, x.block < W.heap.size := by obtain ⟨m, hm⟩ := k0; exact DataW.trod_lt m _ _ _ hm
  have k1 := h1
  have lt1 : ∀ x ∈ p1, x.block < W.heap.size := by obtain ⟨m, hm⟩ := k1; exact DataW.trod_lt m _ _ _ hm
  obtain ⟨s, rfl, hs⟩ := open_state (hval 0 25 v0 rfl rfl) h0
  obtain ⟨i, rfl, hi⟩ := open_input (hval 1 27 v1 rfl rfl) h1
  clear hA0 hval0
  refine (walk s i hs hi W (none_of_laid hL)).mono fun e W' ⟨he, bel⟩ => ?_
  subst he
  exact ⟨_, rfl, _, _, _, [], _, [], hW', trodAll_mk1 (shut_bool Tryd.underlying4 _), (trodAll_cons_mk (Below.trod laidOut (by kernel_rfl) (of_decide_eq_true (by kernel_rfl)) k0 bel lt0) (trodAll_cons_mk (Below.trod laidOut (by kernel_rfl) (of_decide_eq_true (by kernel_rfl)) k1 bel lt1) trodAll_mk0)), rfl, bel.frame _, fun h => by cases h⟩

theorem over : Rows.roundStepsRow.holds Tryd.pinned (OpenSpec.ofChange Rows.roundStepsSpec) :=
  OpenClaim.holds_of_wide 3 Tryd.f3 rfl rfl rfl rfl rfl rfl rfl ⟨rfl, rfl, rfl, rfl, rfl⟩ rfl rfl rfl rfl rfl (by kernel_rfl) Tryd.func3 (by kernel_rfl)
    (of_decide_eq_true (by kernel_rfl)) (by unfold Func.isWrapper; first | (rw [if_pos (by decide +kernel)]; kernel_rfl) | (rw [if_neg (by decide +kernel)]; exact ⟨rfl, rfl⟩))
    (fun os started H enc _ => lifted os started H enc)
end Go.Proofs.YtlhnhdkbfkbafaaDoor.roundSteps

/- What this text proves: the walk of the law MerkleChecks: it returns true. The condition is that the package's table is as its text lays it. -/
import Derived.Test.YtdeikpifflkabaaDoorMerCheckR
import Derived.Test.YtdeikpifflkabaaDoorMerAlive
import Derived.Test.YtdeikpifflkabaaDoorOpenProof
namespace Go.Proofs.YtdeikpifflkabaaDoor
open Go.RowKit Go.Shelf
set_option linter.unusedVariables false
set_option linter.unusedSimpArgs false

attribute [local irreducible] digF
set_option maxRecDepth 100000 in
set_option maxHeartbeats 8000000 in
theorem checks_any (r : List UInt8) (hr32 : r.length = 32) (key : ByteArray) (q : ProofV) (w : World) (hq : q.good w) (hr : Roots w) (h0 : 0 < w.heap.size) :
    Calls Tryd.prog 4 #[.agg (bts r).toArray, .string key, .agg #[.int .i64 q.size, .slice q.A q.ps.length q.c]] w fun e w' => e = .returned (.bool true) ∧ Below w.heap.size w w' := by
  have HR := Lib.hid hr
  have HQ := Lib.hid hq
  have hAl := Lib.hid fun W (hb : Below w.heap.size w W) => alive_any W (hr.below hb h0) (Nat.lt_of_lt_of_le h0 hb.size)
  clear hr hq
  obtain ⟨size, P, ps, c⟩ := q
  simp only
  have hlm : ps.length ≤ 9223372036854775807 := by have := HQ.out.le; have := HQ.out.cm; unfold maxLen at this; simp only at *; omega
  obtain ⟨g3, hg3⟩ : ∃ g, w.heap.size = g := ⟨_, rfl⟩
  have HG3 := Lib.hid hg3
  go_enter Tryd.func4, Tryd.ntmps4
  go_upto_region 1 with fail
  have K3 := (Bk.new w 26 (bts r).toArray).alloc (.cells #[.int .i64 size, .slice P ps.length c] 38)
  have K4 := Bk.new (w.alloc (.cells (bts r).toArray 26)) 38 #[.int .i64 size, .slice P ps.length c]
  have L2 : Below w.heap.size w ((w.alloc (.cells (bts r).toArray 26)).alloc (.cells #[.int .i64 size, .slice P ps.length c] 38)) := (by (first | assumption | (repeat (first | exact Below.refl _ _ | assumption | apply Below.drew | apply below_drewN | (refine Below.setCell ?_ (by (try simp) <;> omega) _) | (refine Below.alloc ?_ (by (try simp) <;> omega) _)))))
  rw [World.size_alloc] at K4
  obtain ⟨w2, hw2⟩ : ∃ W, (w.alloc (.cells (bts r).toArray 26)).alloc (.cells #[.int .i64 size, .slice P ps.length c] 38) = W := ⟨_, rfl⟩
  have z2 : w2.heap.size = g3 + 2 := by rw [← hw2, World.size_alloc, World.size_alloc, hg3]
  rw [hw2] at K3 K4 L2 ⊢
  rw [hg3] at K3 K4
  have HK3 := Lib.hid K3
  have HK4 := Lib.hid K4
  have HL2 := Lib.hid L2
  have HZ2 := Lib.hid z2
  clear hw2 K3 K4 L2 z2 hg3
  go_wp2_with fail
  go_loopw [7] (fun cn wr => ∃ (k : Nat), k ≤ ps.length ∧ k ≤ 5 ∧ cn = .int .i64 k ∧ (∀ p ∈ ps.take k, p.fits) ∧ Below w2.heap.size w2 wr) (fun cn _ => ps.length - (intOf cn).toNat)
  case atStart => exact ⟨0, by omega, by omega, rfl, fun p hp => (by simp at hp), Below.refl _ _⟩
  case round =>
    obtain ⟨k, hk, hk5, rfl, hall, hbel⟩ := hrel
    have HAll := Lib.hid hall
    have KR3 := Lib.hid (HK3.out.below hbel HK3.out.lt)
    have KR4 := Lib.hid (HK4.out.below hbel HK4.out.lt)
    have HB := Lib.hid hbel
    have LR := Lib.hid (HL2.out.trans (hbel.mono HL2.out.size))
    clear hall hbel
    have v0 := KR4.out.cell 0
    have v1 := KR4.out.cell 1
    by_cases hlt : k < ps.length
    · have hlt' : (k : Int) < (ps.length : Int) := by omega
      by_cases hk4 : 4 < k
      · have e1 : decide ((4 : Int) < (k : Int)) = true := decide_eq_true (by omega)
        have e1' : decide (4 < k) = true := decide_eq_true (by omega)
        go_wp2_with fail
        with_reducible refine (hAl.out _ LR.out).mono ?_
        rintro e w3 ⟨rfl, hb3⟩
        go_wp2_with fail
        go_ret
        exact ⟨rfl, LR.out.trans (hb3.mono LR.out.size)⟩
      have e1 : decide ((4 : Int) < (k : Int)) = false := decide_eq_false (by omega)
      have e1' : decide (4 < k) = false := decide_eq_false (by omega)
      obtain ⟨b, off, p, rfl, hb, hpk, hc0, hc1, hc2, hc3⟩ := HQ.out.sl.pt hlt
      have HPK := Lib.hid hpk
      have d1 := (LR.out.cell (p := ⟨b, off + k * 4 + 1, none⟩) hb).trans hc1
      have d2 := (LR.out.cell (p := ⟨b, off + k * 4 + 2, none⟩) hb).trans hc2
      have d3 := (LR.out.cell (p := ⟨b, off + k * 4 + 3, none⟩) hb).trans hc3
      clear hpk hc0 hc1 hc2 hc3
      obtain ⟨⟨idx, ⟨pk, pv⟩, pA, path, pc⟩, hpe⟩ : ∃ q, q = p := ⟨p, rfl⟩
      subst hpe
      simp only at d1 d2 d3
      by_cases hp2 : 20 < path.length
      · have e2 : decide ((20 : Int) < (path.length : Int)) = true := decide_eq_true (by omega)
        have e2' : decide (20 < path.length) = true := decide_eq_true (by omega)
        go_wp2_with fail
        with_reducible refine (hAl.out _ LR.out).mono ?_
        rintro e w3 ⟨rfl, hb3⟩
        go_wp2_with fail
        go_ret
        exact ⟨rfl, LR.out.trans (hb3.mono LR.out.size)⟩
      have e2 : decide ((20 : Int) < (path.length : Int)) = false := decide_eq_false (by omega)
      have e2' : decide (20 < path.length) = false := decide_eq_false (by omega)
      by_cases hp3 : 300 < pk.size
      · have e3 : decide ((300 : Int) < (pk.size : Int)) = true := decide_eq_true (by omega)
        go_wp2_with fail
        with_reducible refine (hAl.out _ LR.out).mono ?_
        rintro e w3 ⟨rfl, hb3⟩
        go_wp2_with fail
        go_ret
        exact ⟨rfl, LR.out.trans (hb3.mono LR.out.size)⟩
      have e3 : decide ((300 : Int) < (pk.size : Int)) = false := decide_eq_false (by omega)
      by_cases hp4 : 300 < pv.size
      · have e4 : decide ((300 : Int) < (pv.size : Int)) = true := decide_eq_true (by omega)
        go_wp2_with fail
        with_reducible refine (hAl.out _ LR.out).mono ?_
        rintro e w3 ⟨rfl, hb3⟩
        go_wp2_with fail
        go_ret
        exact ⟨rfl, LR.out.trans (hb3.mono LR.out.size)⟩
      have e4 : decide ((300 : Int) < (pv.size : Int)) = false := decide_eq_false (by omega)
      go_wp2_with fail
      go_roundw
      case rel =>
        refine ⟨k + 1, by omega, by omega, by go_num, fun p hp => ?_, HB.out⟩
        rw [take_at HPK.out, List.mem_append] at hp
        rcases hp with hp | hp
        · exact HAll.out p hp
        · rw [List.mem_singleton] at hp
          subst hp
          exact ⟨by simp only; omega, by simp only; omega, by simp only; omega⟩
      case measure => simp [intOf]; omega
    · obtain rfl : k = ps.length := by omega
      have hfit : ∀ p ∈ ps, p.fits := fun p hp => HAll.out p (by rw [List.take_length]; exact hp)
      have HFIT := Lib.hid hfit
      have HC1 := Lib.hid (fun W (hb : Below w.heap.size w W) => check_any r hr32 key size ps P c W HQ.out.lo HQ.out.hi (by omega) HFIT.out (fun p hp => (HQ.out.gs p hp).below hb) (HR.out.below hb h0) (Nat.lt_of_lt_of_le h0 hb.size) ((HQ.out.sl.below hb).more hb.size))
      have HC2 := Lib.hid (fun W (hb : Below w.heap.size w W) => rcheck_any r hr32 key size ps P c W HQ.out.lo HQ.out.hi (by omega) HFIT.out (fun p hp => (HQ.out.gs p hp).below hb) ((HQ.out.sl.below hb).more hb.size))
      obtain ⟨x, hx⟩ : ∃ x, checkF r key size ps = x := ⟨_, rfl⟩
      rw [hx] at HC1 HC2
      obtain ⟨S, b1, b2⟩ := x
      unfold resV at HC1 HC2
      clear hfit hx HAll
      go_wp2_with (refine wpList_val (by rfl) (run_ldh _ (by with_reducible rfl) g3 0 (by rfl) r hr32 (by exact KR3.out.all)) ?_)
      with_reducible refine (HC1.out _ LR.out).mono ?_
      rintro e w3 ⟨rfl, hb3⟩
      have B3 := Lib.hid (LR.out.trans (hb3.mono LR.out.size))
      have KA3 := Lib.hid (KR3.out.below hb3 KR3.out.lt)
      have k43 := KR4.out.below hb3 KR4.out.lt
      have v0' := k43.cell 0
      have v1' := k43.cell 1
      clear hb3 HC1 v0 v1 k43
      go_wp2_with (refine wpList_val (by rfl) (run_ldh _ (by with_reducible rfl) g3 0 (by rfl) r hr32 (by exact KA3.out.all)) ?_)
      with_reducible refine (HC2.out _ B3.out).mono ?_
      rintro e w4 ⟨rfl, hb4⟩
      have B4 := Lib.hid (B3.out.trans (hb4.mono B3.out.size))
      clear hb4 HC2 v0' v1' KA3 B3
      go_wp2_with fail
      with_reducible refine (hAl.out _ B4.out).mono ?_
      rintro e w5 ⟨rfl, hb5⟩
      have B5 := Lib.hid (B4.out.trans (hb5.mono B4.out.size))
      clear hb5 B4
      go_wp2_with fail
      go_ret
      exact ⟨by cases b1 <;> cases b2 <;> simp, B5.out⟩
theorem checks_walk (r : List UInt8) (hr32 : r.length = 32) (key : ByteArray) (q : ProofV) {w : World} (hq : q.good w) (_ : World) (hr : Roots w ∧ 0 < w.heap.size) :
    Calls Tryd.prog 4 #[.agg (bts r).toArray, .string key, .agg #[.int .i64 q.size, .slice q.A q.ps.length q.c]] w fun e w' => e = .returned (.bool true) ∧ Below w.heap.size w w' := checks_any r hr32 key q w hq hr.1 hr.2
end Go.Proofs.YtdeikpifflkabaaDoor

/- What this text proves: what a proof says of a root and a key, as a plain function; how proofs lie in memory; the contract of cmp.Compare at strings. No condition. the contract of merkle.Check. The conditions: sizes of what is asked about; how the proof lies in memory; that the package's table is as its text lays it. the contract of the reference's Check. The conditions: sizes of what is asked about; how the proof lies in memory. -/
import Derived.Test.YtdeikpifflkabaaDoorMerLeadsR
namespace Go.Proofs.YtdeikpifflkabaaDoor
open Go.RowKit Go.Shelf
set_option linter.unusedVariables false
set_option linter.unusedSimpArgs false

def cmpS (a b : ByteArray) : Int := if ltK a b then -1 else if ltK b a then 1 else 0
theorem cmpS_neg (a b : ByteArray) : decide (cmpS a b < 0) = ltK a b := by
  unfold cmpS
  cases h : ltK a b with
  | true => rfl
  | false => cases h' : ltK b a <;> rfl
theorem cmpS_pos (a b : ByteArray) : decide (0 < cmpS a b) = ltK b a := by
  unfold cmpS
  cases h : ltK a b with
  | true => rw [ltK_asymm h]; rfl
  | false => cases h' : ltK b a <;> rfl
theorem cmpS_zero (a b : ByteArray) : (cmpS a b == 0) = decide (a = b) := by
  unfold cmpS
  cases h : ltK a b with
  | true =>
    rw [decide_eq_false]
    · rfl
    · rintro rfl; rw [ltK_irrefl] at h; cases h
  | false =>
    cases h' : ltK b a with
    | true =>
      rw [decide_eq_false]
      · rfl
      · rintro rfl; rw [ltK_irrefl] at h'; cases h'
    | false => rw [ltK_total h h', decide_eq_true rfl]; rfl
theorem cmpS_bd (a b : ByteArray) : -1 ≤ cmpS a b ∧ cmpS a b ≤ 1 := by
  unfold cmpS
  split
  · omega
  · split <;> omega
theorem isNaN_any (a : ByteArray) (w : World) : Calls Tryd.prog 55 #[.string a] w fun e w' => e = .returned (.bool false) ∧ w' = w := by
  go_enter Tryd.func55, Tryd.ntmps55
  go_wp2
  go_ret
  exact ⟨by simp, rfl⟩
set_option maxHeartbeats 1000000 in
theorem compare_any (a b : ByteArray) (w : World) : Calls Tryd.prog 34 #[.string a, .string b] w fun e w' => e = .returned (.int .i64 (cmpS a b)) ∧ w' = w := by
  have h1 := Lib.hid (isNaN_any a)
  have h2 := Lib.hid (isNaN_any b)
  cases h : ltK a b with
  | true =>
    have e1 : Op.bytesLess a.toList b.toList = true := h
    have HR : Hid (cmpS a b = -1) := Lib.hid (by rw [cmpS, h]; rfl)
    go_enter Tryd.func34, Tryd.ntmps34
    go_wp2_with (go_at_call 55; first | (with_reducible refine (h1.out _).mono ?_; rintro e _ ⟨rfl, rfl⟩) | (with_reducible refine (h2.out _).mono ?_; rintro e _ ⟨rfl, rfl⟩))
    go_ret
    exact ⟨by rw [HR.out]; rfl, rfl⟩
  | false =>
    have e1 : Op.bytesLess a.toList b.toList = false := h
    cases h' : ltK b a with
    | true =>
      have e2 : (a.toList == b.toList) = false := by
        rw [eqK, decide_eq_false]
        rintro rfl
        rw [ltK_irrefl] at h'
        cases h'
      have e3 : ¬ a.toList = b.toList := by simpa using e2
      have HR : Hid (cmpS a b = 1) := Lib.hid (by rw [cmpS, h, h']; rfl)
      go_enter Tryd.func34, Tryd.ntmps34
      go_wp2_with (go_at_call 55; first | (with_reducible refine (h1.out _).mono ?_; rintro e _ ⟨rfl, rfl⟩) | (with_reducible refine (h2.out _).mono ?_; rintro e _ ⟨rfl, rfl⟩))
      go_ret
      exact ⟨by rw [HR.out]; rfl, rfl⟩
    | false =>
      have hab := ltK_total h h'
      subst hab
      have HR : Hid (cmpS a a = 0) := Lib.hid (by rw [cmpS, h]; rfl)
      clear h h'
      go_enter Tryd.func34, Tryd.ntmps34
      go_wp2_with (go_at_call 55; first | (with_reducible refine (h1.out _).mono ?_; rintro e _ ⟨rfl, rfl⟩) | (with_reducible refine (h2.out _).mono ?_; rintro e _ ⟨rfl, rfl⟩))
      go_ret
      exact ⟨by rw [HR.out]; rfl, rfl⟩

/-- A part, as it reads. -/
structure PartV where
  idx : Int
  e : Ent
  A : Option Addr
  path : List (List UInt8)
  c : Nat
def PartV.cells (p : PartV) : List Value := [.int .i64 p.idx, .string p.e.1, .string p.e.2, .slice p.A p.path.length p.c]
structure PartV.good (p : PartV) (w : World) : Prop where
  le : p.path.length ≤ p.c
  cm : p.c ≤ maxLen
  h : h32 p.path
  lo : -9223372036854775808 ≤ p.idx
  hi : p.idx < 9223372036854775808
  sl : Sl w w.heap.size 32 p.A p.path.length (hCells p.path)
theorem PartV.good.below {p : PartV} {w w' : World} (h : p.good w) (hb : Below w.heap.size w w') : p.good w' := ⟨h.le, h.cm, h.h, h.lo, h.hi, (h.sl.below hb).more hb.size⟩
def pCells (l : List PartV) : List Value := l.flatMap PartV.cells
theorem pCells_len1 {l : List PartV} : ∀ p ∈ l, p.cells.length = 4 := fun _ _ => rfl
theorem Sl.pt {w : World} {B : Nat} {A : Option Addr} {l : List PartV} (h : Sl w B 4 A l.length (pCells l)) {k : Nat} (hk : k < l.length) :
    ∃ b off p, A = some ⟨b, off, none⟩ ∧ b < B ∧ l[k]? = some p ∧ w.cell? ⟨b, off + k * 4, none⟩ = some (.int .i64 p.idx) ∧ w.cell? ⟨b, off + k * 4 + 1, none⟩ = some (.string p.e.1) ∧ w.cell? ⟨b, off + k * 4 + 2, none⟩ = some (.string p.e.2) ∧ w.cell? ⟨b, off + k * 4 + 3, none⟩ = some (.slice p.A p.path.length p.c) := by
  obtain ⟨b, off, p, e, hb, hx, hr⟩ := Sl.elt pCells_len1 h hk
  exact ⟨b, off, p, e, hb, hx, hr 0 _ rfl, hr 1 _ rfl, hr 2 _ rfl, hr 3 _ rfl⟩
/-- How much of a part is asked about. -/
def PartV.fits (p : PartV) : Prop := p.e.1.size ≤ 300 ∧ p.e.2.size ≤ 300 ∧ p.path.length ≤ 1000
def PartV.leads (r : List UInt8) (N : Nat) (p : PartV) : Bool := leadsF r p.idx p.e p.path N
def noB : ByteArray := ⟨#[]⟩
/-- What a proof says. -/
def sayF (r : List UInt8) (key : ByteArray) (N : Nat) : List PartV → ByteArray × Bool × Bool
  | [] => (noB, false, decide (N = 0) && (r == digF []))
  | [a] => if a.e.1 = key then (a.e.2, true, true) else (noB, false, (decide (a.idx = 0) && ltK key a.e.1) || (decide (a.idx = (N : Int) - 1) && ltK a.e.1 key))
  | [a, b] => (noB, false, decide (b.idx - a.idx = 1) && ltK a.e.1 key && ltK key b.e.1)
  | _ => (noB, false, false)
def checkF (r : List UInt8) (key : ByteArray) (size : Int) (ps : List PartV) : ByteArray × Bool × Bool :=
  if size < 0 ∨ 4096 < size then (noB, false, false)
  else if ps.all (PartV.leads r size.toNat) then sayF r key size.toNat ps else (noB, false, false)
def resV (x : ByteArray × Bool × Bool) : Value := .tuple #[.string x.1, .bool x.2.1, .bool x.2.2]
theorem checkF_bad {r : List UInt8} {key : ByteArray} {size : Int} {ps : List PartV} (h : size < 0 ∨ 4096 < size) : checkF r key size ps = (noB, false, false) := by rw [checkF, if_pos h]
theorem checkF_not {r : List UInt8} {key : ByteArray} {N : Nat} {ps : List PartV} {k : Nat} {p : PartV} (hk : ps[k]? = some p) (h : p.leads r N = false) : checkF r key (N : Int) ps = (noB, false, false) := by
  rw [checkF]
  split
  · rfl
  · rw [if_neg]
    rw [Int.toNat_natCast]
    intro ha
    have := List.all_eq_true.1 ha p (List.mem_of_getElem? hk)
    rw [h] at this
    cases this
theorem checkF_many {r : List UInt8} {key : ByteArray} {size : Int} {ps : List PartV} (h : 2 < ps.length) : checkF r key size ps = (noB, false, false) := by
  rw [checkF]
  split
  · rfl
  · split
    · match ps, h with
      | a :: b :: c :: l, _ => rfl
    · rfl
theorem checkF_say {r : List UInt8} {key : ByteArray} {N : Nat} {ps : List PartV} (hN : N ≤ 4096) (h : ∀ p ∈ ps, p.leads r N = true) : checkF r key (N : Int) ps = sayF r key N ps := by
  rw [checkF, if_neg (by omega), Int.toNat_natCast, if_pos (List.all_eq_true.2 h)]
theorem ret_res {x y : ByteArray × Bool × Bool} (h : x = y) : Ending.returned (resV x) = .returned (resV y) := by rw [h]
end Go.Proofs.YtdeikpifflkabaaDoor

namespace Go.Proofs.YtdeikpifflkabaaDoor
open Go.RowKit Go.Shelf
set_option linter.unusedVariables false
set_option linter.unusedSimpArgs false

theorem int_info : (Tryd.prog.info? 3).map (fun i => (i.zero, i.size, i.bytes)) = some (some (.int .i64 0), 1, 8) := by kernel_rfl
theorem made_one (z : Value) (n : Nat) (hz : z.cells = #[z]) : madeCells z.cells n = (List.replicate n z).toArray := by
  rw [hz]
  apply Array.ext
  · simp [madeCells]
  · intro i h1 h2
    simp [madeCells, Nat.mod_one]
theorem make_two (W : World) : (Instr.makeSlice 64 (.int .i64 0) (.int .i64 2)).run Tryd.prog W = .ok (.slice (some ⟨W.heap.size, 0, none⟩) 0 2) (W.alloc (.cells #[.int .i64 0, .int .i64 0] 3)) := by
  obtain ⟨i0, hi, hz0, hz1, hz2⟩ := info_parts int_info
  have h := run_make (P := Tryd.prog) W 64 3 i0 _ Tryd.underlying64 hi hz0 .i64 .i64 0 2 (by omega) (by omega) (by rw [hz2]; omega) (by omega)
  rw [hz1, made_one _ _ rfl] at h
  exact h
theorem leads_part (r : List UInt8) (hr32 : r.length = 32) (p : PartV) (N : Nat) (w : World) (hN : N ≤ 4096) (hf : p.fits) (hg : p.good w) (hrt : Roots w) (h0 : 0 < w.heap.size) :
    Calls Tryd.prog 33 #[.agg (bts r).toArray, .agg #[.int .i64 p.idx, .string p.e.1, .string p.e.2, .slice p.A p.path.length p.c], .int .i64 (N : Int)] w fun en w' => en = .returned (.bool (p.leads r N)) ∧ Below w.heap.size w w' := by
  by_cases h : 0 ≤ p.idx ∧ p.idx < (N : Int)
  · obtain ⟨i, hi⟩ : ∃ i : Nat, p.idx = (i : Int) := ⟨p.idx.toNat, by omega⟩
    have := leads_in r hr32 i p.e hf.1 hf.2.1 p.A p.path p.c N w (by omega) hN hf.2.2 hg.h hrt h0 hg.sl
    rw [← hi] at this
    exact this
  · have := leads_out r p.idx p.e p.A p.path.length p.c N w h
    rw [← leadsF_out (r := r) (e := p.e) (path := p.path) h] at this
    exact this
theorem leads_range {r : List UInt8} {N : Nat} {p : PartV} (h : p.leads r N = true) : 0 ≤ p.idx ∧ p.idx < (N : Int) := by
  unfold PartV.leads leadsF at h
  rw [Bool.and_eq_true, decide_eq_true_eq] at h
  exact h.1
def ordV (key : ByteArray) (l : List PartV) : List Value := l.map fun p => .int .i64 (cmpS p.e.1 key)

attribute [local irreducible] digF
set_option maxRecDepth 100000 in
set_option maxHeartbeats 8000000 in
theorem check_any (r : List UInt8) (hr32 : r.length = 32) (key : ByteArray) (size : Int) (ps : List PartV) (P : Option Addr) (c : Nat) (w : World) (hs1 : -9223372036854775808 ≤ size) (hs2 : size < 9223372036854775808) (hn : ps.length ≤ 1000) (hf : ∀ p ∈ ps, p.fits) (hg : ∀ p ∈ ps, p.good w)
    (hrt : Roots w) (h0 : 0 < w.heap.size) (hP : Sl w w.heap.size 4 P ps.length (pCells ps)) :
    Calls Tryd.prog 15 #[.agg (bts r).toArray, .string key, .agg #[.int .i64 size, .slice P ps.length c]] w fun e w' => e = .returned (resV (checkF r key size ps)) ∧ Below w.heap.size w w' := by
  have HR := Lib.hid hrt
  have HF := Lib.hid hf
  have HG := Lib.hid hg
  have HP := Lib.hid hP
  clear hf hg hrt hP
  obtain ⟨g3, hg3⟩ : ∃ g, w.heap.size = g := ⟨_, rfl⟩
  have HG3 := Lib.hid hg3
  go_enter Tryd.func15, Tryd.ntmps15
  go_upto_region 1 with fail
  have K3 := (Bk.new w 26 (bts r).toArray).alloc (.cells #[.int .i64 size, .slice P ps.length c] 38)
  have K4 := Bk.new (w.alloc (.cells (bts r).toArray 26)) 38 #[.int .i64 size, .slice P ps.length c]
  have L2 : Below w.heap.size w ((w.alloc (.cells (bts r).toArray 26)).alloc (.cells #[.int .i64 size, .slice P ps.length c] 38)) := (by (first | assumption | (repeat (first | exact Below.refl _ _ | assumption | apply Below.drew | apply below_drewN | (refine Below.setCell ?_ (by (try simp) <;> omega) _) | (refine Below.alloc ?_ (by (try simp) <;> omega) _)))))
  rw [World.size_alloc] at K4
  obtain ⟨w2, hw2⟩ : ∃ W, (w.alloc (.cells (bts r).toArray 26)).alloc (.cells #[.int .i64 size, .slice P ps.length c] 38) = W := ⟨_, rfl⟩
  have z2 : w2.heap.size = g3 + 2 := by rw [← hw2, World.size_alloc, World.size_alloc, hg3]
  rw [hw2] at K3 K4 L2 ⊢
  rw [hg3] at K3 K4 L2
  have x0 : w2.cell? ⟨g3 + 1, 0, none⟩ = some (.int .i64 size) := K4.cell 0
  have x1 : w2.cell? ⟨g3 + 1, 1, none⟩ = some (.slice P ps.length c) := K4.cell 1
  have HK3 := Lib.hid K3
  have HK4 := Lib.hid K4
  have HL2 := Lib.hid L2
  have HZ2 := Lib.hid z2
  clear hw2 K3 K4 L2 hg3 z2
  by_cases hsz0 : size < 0
  · have e1 : decide (size < 0) = true := decide_eq_true hsz0
    have HRES := Lib.hid (checkF_bad (r := r) (key := key) (ps := ps) (.inl hsz0))
    go_wp2_with fail
    go_ret3
    exact ⟨by rw [HRES.out]; rfl, by rw [HG3.out]; exact HL2.out⟩
  have e1 : decide (size < 0) = false := decide_eq_false hsz0
  by_cases hsz1 : 4096 < size
  · have e2 : decide (4096 < size) = true := decide_eq_true hsz1
    have HRES := Lib.hid (checkF_bad (r := r) (key := key) (ps := ps) (.inr hsz1))
    go_wp2_with fail
    go_ret3
    exact ⟨by rw [HRES.out]; rfl, by rw [HG3.out]; exact HL2.out⟩
  have e2 : decide (4096 < size) = false := decide_eq_false hsz1
  by_cases hn2 : 2 < ps.length
  · have e3 : decide ((2 : Int) < (ps.length : Int)) = true := decide_eq_true (by omega)
    have e3' : decide (2 < ps.length) = true := decide_eq_true (by omega)
    have HRES := Lib.hid (checkF_many (r := r) (key := key) (size := size) hn2)
    go_wp2_with fail
    go_ret3
    exact ⟨by rw [HRES.out]; rfl, by rw [HG3.out]; exact HL2.out⟩
  have e3 : decide ((2 : Int) < (ps.length : Int)) = false := decide_eq_false (by omega)
  have e3' : decide (2 < ps.length) = false := decide_eq_false (by omega)
  obtain ⟨N, rfl⟩ : ∃ N : Nat, size = N := ⟨size.toNat, by omega⟩
  have hN : N ≤ 4096 := by omega
  have hmk := make_two w2
  have O3 := World.ownsRow_made (base := g3 + 2) (e := 3) (size := 1) w2 #[.int .i64 0, .int .i64 0] 2 (by rw [HZ2.out]; omega) (by unfold maxLen; omega) (by simp)
  have L3 : Below w2.heap.size w2 (w2.alloc (.cells #[.int .i64 0, .int .i64 0] 3)) := (by (first | assumption | (repeat (first | exact Below.refl _ _ | assumption | apply Below.drew | apply below_drewN | (refine Below.setCell ?_ (by (try simp) <;> omega) _) | (refine Below.alloc ?_ (by (try simp) <;> omega) _)))))
  go_upto_region 4 with fail
  obtain ⟨w3, hw3⟩ : ∃ W, w2.alloc (.cells #[.int .i64 0, .int .i64 0] 3) = W := ⟨_, rfl⟩
  rw [hw3] at O3 L3 ⊢
  have KK4 := HK4.out.below L3 HK4.out.lt
  have x0' : w3.cell? ⟨g3 + 1, 0, none⟩ = some (.int .i64 (N : Int)) := KK4.cell 0
  have x1' : w3.cell? ⟨g3 + 1, 1, none⟩ = some (.slice P ps.length c) := KK4.cell 1
  have HO3 := Lib.hid O3
  have HL3 := Lib.hid (HL2.out.trans (L3.mono (by have := HZ2.out; omega)))
  have K33 := Lib.hid (HK3.out.below L3 HK3.out.lt)
  have K43 := Lib.hid KK4
  have HZ3 : Hid (g3 + 2 ≤ w3.heap.size) := Lib.hid (by have := L3.size; have := HZ2.out; omega)
  clear hw3 O3 L3 KK4 x0 x1 hmk e1 e2 e3 e3' HK3 HK4 HL2
  rw [show w2.heap.size = g3 + 2 from HZ2.out] at HO3 ⊢
  go_wp2_with fail
  clear x0' x1'
  go_loopw [9, 32] (fun ord cn wr => ∃ (k : Nat), k ≤ ps.length ∧ cn = .int .i64 k ∧ wr.ownsRow (g3 + 2) 3 1 ord k (ordV key (ps.take k)) ∧ (∀ p ∈ ps.take k, p.leads r N = true) ∧ Below (g3 + 2) w3 wr) (fun _ cn _ => ps.length - (intOf cn).toNat)
  case atStart => exact ⟨0, by omega, rfl, by simpa [ordV] using HO3.out, fun p hp => (by simp at hp), Below.refl _ _⟩
  case round =>
    obtain ⟨k, hk, rfl, hord, hall, hbel⟩ := hrel
    have HO := Lib.hid hord
    have HAll := Lib.hid hall
    have HB := Lib.hid hbel
    have KR3 := Lib.hid (K33.out.below hbel (by omega))
    have KR4 := Lib.hid (K43.out.below hbel (by omega))
    have LR := Lib.hid (HL3.out.trans (hbel.mono (by omega)))
    clear hord hall hbel HO3
    by_cases hlt : k < ps.length
    · have hlt' : (k : Int) < (ps.length : Int) := by omega
      obtain ⟨b, off, p, rfl, hb, hpk, hc0, hc1, hc2, hc3⟩ := HP.out.pt hlt
      have hbr : b < wr.heap.size := Nat.lt_of_lt_of_le hb LR.out.size |> fun h => by have := LR.out.size; have := HG3.out; have := HB.out.size; have := HZ3.out; omega
      have LRw : Below w.heap.size w wr := LR.out.mono (Nat.le_of_eq HG3.out)
      have d0 := (LRw.cell (p := ⟨b, off + k * 4, none⟩) hb).trans hc0
      have d1 := (LRw.cell (p := ⟨b, off + k * 4 + 1, none⟩) hb).trans hc1
      have d2 := (LRw.cell (p := ⟨b, off + k * 4 + 2, none⟩) hb).trans hc2
      have d3 := (LRw.cell (p := ⟨b, off + k * 4 + 3, none⟩) hb).trans hc3
      have hpm := List.mem_of_getElem? hpk
      have HFP := Lib.hid (HF.out p hpm)
      have HGP := Lib.hid (HG.out p hpm)
      have HPK := Lib.hid hpk
      clear hc0 hc1 hc2 hc3 hpm hpk
      obtain ⟨⟨idx, ⟨pk, pv⟩, pA, path, pc⟩, hpe⟩ : ∃ q, q = p := ⟨p, rfl⟩
      subst hpe
      simp only at d0 d1 d2 d3
      go_upto_region 7 with fail
      have K7 := Bk.new wr 41 #[.int .i64 idx, .string pk, .string pv, .slice pA path.length pc]
      have L7 : Below wr.heap.size wr (wr.alloc (.cells #[.int .i64 idx, .string pk, .string pv, .slice pA path.length pc] 41)) := (by (first | assumption | (repeat (first | exact Below.refl _ _ | assumption | apply Below.drew | apply below_drewN | (refine Below.setCell ?_ (by (try simp) <;> omega) _) | (refine Below.alloc ?_ (by (try simp) <;> omega) _)))))
      obtain ⟨w7, hw7⟩ : ∃ W, wr.alloc (.cells #[.int .i64 idx, .string pk, .string pv, .slice pA path.length pc] 41) = W := ⟨_, rfl⟩
      rw [hw7] at K7 L7 ⊢
      have y0 : w7.cell? ⟨wr.heap.size, 0, none⟩ = some (.int .i64 idx) := K7.cell 0
      have y1 : w7.cell? ⟨wr.heap.size, 1, none⟩ = some (.string pk) := K7.cell 1
      have y2 : w7.cell? ⟨wr.heap.size, 2, none⟩ = some (.string pv) := K7.cell 2
      have y3 : w7.cell? ⟨wr.heap.size, 3, none⟩ = some (.slice pA path.length pc) := K7.cell 3
      have x0' : w7.cell? ⟨g3 + 1, 0, none⟩ = some (.int .i64 (N : Int)) := (KR4.out.below L7 KR4.out.lt).cell 0
      have KA3 := Lib.hid (KR3.out.below L7 KR3.out.lt)
      have HK7 := Lib.hid K7
      have LW7 := Lib.hid (LR.out.trans (L7.mono (by have := LR.out.size; have := HB.out.size; have := HZ3.out; omega)))
      have HO7 := Lib.hid (own_below HO.out L7)
      have HB7 := Lib.hid (HB.out.trans (L7.mono (by have := HB.out.size; have := HZ3.out; omega)))
      have hcl := leads_part r hr32 ⟨idx, (pk, pv), pA, path, pc⟩ N w7 hN HFP.out (HGP.out.below (LW7.out.mono (Nat.le_of_eq HG3.out))) (HR.out.below (LW7.out.mono (Nat.le_of_eq HG3.out)) h0) (Nat.lt_of_lt_of_le h0 (LW7.out.mono (Nat.le_of_eq HG3.out)).size)
      simp only at hcl
      obtain ⟨lb, hlb⟩ : ∃ l, PartV.leads r N ⟨idx, (pk, pv), pA, path, pc⟩ = l := ⟨_, rfl⟩
      rw [hlb] at hcl
      have HLB := Lib.hid hlb
      have HCL := Lib.hid hcl
      clear hw7 K7 L7 d0 d1 d2 d3 hlb hcl LRw
      go_wp2_with (refine wpList_val (by rfl) (run_ldh _ (by with_reducible rfl) g3 0 (by rfl) r hr32 (by exact KA3.out.all)) ?_)
      with_reducible refine HCL.out.mono ?_
      rintro en w8 ⟨rfl, hb8⟩
      have HO8 := Lib.hid (own_below HO7.out hb8)
      have HB8 := Lib.hid (HB7.out.trans (hb8.mono (by have := HB7.out.size; have := HZ3.out; omega)))
      have z1 := (hb8.cell (p := ⟨wr.heap.size, 1, none⟩) HK7.out.lt).trans y1
      have hz8 := hb8.size
      clear y0 y1 y2 y3 x0' hb8 HCL
      cases lb with
      | false =>
        have HRES := Lib.hid (checkF_not (key := key) HPK.out HLB.out)
        go_wp2_with fail
        go_ret3
        exact ⟨by rw [HRES.out]; rfl, by rw [HG3.out]; exact HL3.out.trans (HB8.out.mono (by omega))⟩
      | true =>
        have HCMP := Lib.hid (compare_any pk key w8)
        obtain ⟨x, hx⟩ : ∃ x, cmpS pk key = x := ⟨_, rfl⟩
        rw [hx] at HCMP
        have HT : Hid (ordV key (ps.take k) ++ [.int .i64 x] = ordV key (ps.take (k + 1))) := Lib.hid (by rw [take_at HPK.out, ordV, ordV, List.map_append, ← hx]; rfl)
        have HAll' : Hid (∀ p ∈ ps.take (k + 1), p.leads r N = true) := Lib.hid (fun q hq => by
          rw [take_at HPK.out, List.mem_append] at hq
          rcases hq with hq | hq
          · exact HAll.out q hq
          · rw [List.mem_singleton] at hq
            rw [hq]
            exact HLB.out)
        obtain ⟨i0, hii, hz0, hz1, hz2⟩ := info_parts int_info
        clear hx
        go_wp2_with fail
        with_reducible refine HCMP.out.mono ?_
        rintro en w9 ⟨rfl, hw9⟩
        rw [hw9]
        clear hw9
        have hA9 : Below w8.heap.size w8 (w8.alloc (.cells #[.int .i64 x] 3)) := (by (first | assumption | (repeat (first | exact Below.refl _ _ | assumption | apply Below.drew | apply below_drewN | (refine Below.setCell ?_ (by (try simp) <;> omega) _) | (refine Below.alloc ?_ (by (try simp) <;> omega) _)))))
        have O9 := Lib.hid (own_below HO8.out hA9)
        have B9 := Lib.hid (HB8.out.trans (hA9.mono (by have := HB8.out.size; have := HZ3.out; omega)))
        have K9 := Bk.new w8 3 #[.int .i64 x]
        have S9 : Hid (Sl (w8.alloc (.cells #[.int .i64 x] 3)) (w8.alloc (.cells #[.int .i64 x] 3)).heap.size 1 (some ⟨w8.heap.size, 0, none⟩) 1 [.int .i64 x]) := Lib.hid ⟨rfl, fun _ => ⟨w8.heap.size, 0, rfl, K9.lt, fun j u hu => by rw [Nat.zero_add, K9.cell, List.getElem?_toArray]; exact hu⟩⟩
        clear hA9 K9 HCMP z1
        go_wp2_with (refine wpList_append_sl _ (by rfl) _ _ 64 (by rfl) (g3 + 2) 3 i0 _ 1 8 Tryd.underlying64 hii hz0 hz1 hz2 rfl (by omega) _ k (ordV key (ps.take k)) (by rfl) O9.out (some ⟨w8.heap.size, 0, none⟩) 1 1 [.int .i64 x] (by rfl) S9.out (by simp [Value.oneCell']) (by unfold maxLen; omega) (by omega) (by have := B9.out.size; have := HZ3.out; omega) ?_; intro v10 w10 ho_ hg_ hv_)
        rw [HT.out] at ho_
        have O10 := Lib.hid ho_
        have B10 := Lib.hid (B9.out.grown hg_ (by have := B9.out.size; have := HZ3.out; omega) (fun k hk => (own_cells O9.out hk).1))
        clear ho_ hg_ hv_ O9 B9 S9
        go_roundw
        case rel => exact ⟨k + 1, by omega, by go_num, O10.out, HAll'.out, B10.out⟩
        case measure => simp [intOf]; omega
    · obtain rfl : k = ps.length := by omega
      have hsay := checkF_say (r := r) (key := key) hN (ps := ps) (fun p hp => HAll.out p (by rw [List.take_length]; exact hp))
      have hall' : ∀ p ∈ ps, p.leads r N = true := fun p hp => HAll.out p (by rw [List.take_length]; exact hp)
      have ho := HO.out
      rw [List.take_length] at ho
      obtain ⟨Ao, co, rfl, ho1, ho2, hos⟩ := own_sl ho
      have LRw : Below w.heap.size w wr := LR.out.mono (Nat.le_of_eq HG3.out)
      have v0 := KR4.out.cell 0
      have v1 := KR4.out.cell 1
      have HSAY := Lib.hid hsay
      have HALL := Lib.hid hall'
      have HOS := Lib.hid hos
      have hNw : IntKind.i64.wrap ((N : Int) - 1) = (N : Int) - 1 := IntWalk.i64_in _ (by omega)
      clear ho ho1 ho2 hos hsay hall' HO HAll
      rcases ps with _ | ⟨a, _ | ⟨b, _ | ⟨d, rest⟩⟩⟩
      · obtain ⟨J, hJ⟩ : ∃ J, digF [] = J := ⟨_, rfl⟩
        have hJl : J.length = 32 := by rw [← hJ, digF_len]
        have v0w : ∀ x : BW wr, x.val.cell? ⟨g3 + 1, 0, none⟩ = some (.int .i64 (N : Int)) := fun x => (x.below.cell (p := ⟨g3 + 1, 0, none⟩) KR4.out.lt).trans v0
        by_cases hN0 : N = 0
        · subst hN0
          obtain ⟨res, hres⟩ : ∃ q, (r == J) = q := ⟨_, rfl⟩
          have HRES : Hid (checkF r key ((0 : Nat) : Int) [] = (noB, false, res)) := Lib.hid (by rw [HSAY.out, sayF, hJ, hres]; rfl)
          have hEQ := Lib.hid fun (o : Oper) (a : Act) (W : World) (x y : Operand) (ty : TypeId) (ho : o.op = .binOp .eql 26 x y ty) (hx : a.eval x = .agg (bts r).toArray) (hy : a.eval y = .agg (bts J).toArray) => run_eqh (w := W) x y ty ho r J hx hy hr32 hJl
          rw [hres] at hEQ
          have Q1 := Lib.hid (show ∀ x : BW wr, Calls Tryd.prog 24 #[.slice none 0 0] x.val fun e w' => e = .returned (.agg (bts J).toArray) ∧ Below x.val.heap.size x.val w' from fun x => by
            have hW : Below w.heap.size w x.val := LRw.trans (x.below.mono LRw.size)
            have hc0 : Calls Tryd.prog 24 #[.slice none 0 0] x.val _ := digest_any none [] 0 x.val (HR.out.below hW h0) (by unfold maxLen; simp) (Sl.nil _ _ _ _) (Nat.lt_of_lt_of_le h0 hW.size)
            rwa [hJ] at hc0)
          clear hJ hres LRw
          go_upto_region 13 with fail
          clear v0 v1
          refine wp_region_bw (by kernel_rfl) (by kernel_rfl) ?_
          go_big_quiet_step (fail)
          go_big_quiet_step (fail)
          go_big_quiet_step (fail)
          go_big_quiet_step (fail)
          go_big_quiet_want; (with_reducible apply quiet_val)
          case hr => exact fun W hW => run_ldh _ (by rfl) g3 0 (by rfl) r hr32 (bw_range hW KR3.out.all KR3.out.lt)
          go_simp
          go_big_quiet_on
          go_big_quiet_step (exact quiet_bw _ (Q1.out _))
          go_big_quiet_want; (with_reducible apply quiet_val)
          case hr => exact fun W hW => hEQ.out _ _ W _ _ _ (by rfl) (by rfl) (by rfl)
          go_simp
          go_big_quiet_on
          repeat go_big_quiet_step (fail)
          refine wpQuiet_nil ?_; intro _ hwq; obtain ⟨⟨wq, hbq⟩, hwq'⟩ := hwq; subst hwq'
          go_wp2_with fail
          go_ret3
          exact ⟨by rw [HRES.out]; rfl, by rw [HG3.out]; exact LR.out.trans (hbq.mono (by have := LR.out.size; have := HG3.out; omega))⟩
        · have e5 : ((N : Int) == 0) = false := beq_eq_false_iff_ne.2 (by omega)
          have HRES : Hid (checkF r key (N : Int) [] = (noB, false, false)) := Lib.hid (by rw [HSAY.out, sayF, decide_eq_false hN0]; rfl)
          clear hJ LRw
          go_upto_region 13 with fail
          clear v0 v1
          refine wp_region_bw (by kernel_rfl) (by kernel_rfl) ?_
          repeat go_big_quiet_step (fail)
          refine wpQuiet_nil ?_; intro _ hwq; obtain ⟨⟨wq, hbq⟩, hwq'⟩ := hwq; subst hwq'
          go_wp2_with fail
          go_ret3
          exact ⟨by rw [HRES.out]; rfl, by rw [HG3.out]; exact LR.out.trans (hbq.mono (by have := LR.out.size; have := HG3.out; omega))⟩
      · obtain ⟨bp, op_, p, rfl, hbp, hpk, hc0, hc1, hc2, hc3⟩ := HP.out.pt (k := 0) (by simp)
        obtain rfl : a = p := by simpa using hpk
        obtain ⟨bo, oo, u, rfl, hbo, hcu, hu⟩ := HOS.out.one (k := 0) (by simp)
        obtain rfl : u = .int .i64 (cmpS a.e.1 key) := by
          have : (ordV key [a])[0]? = some (.int .i64 (cmpS a.e.1 key)) := rfl
          rw [this] at hu
          exact (Option.some.inj hu).symm
        have d0 := (LRw.cell (p := ⟨bp, op_ + 0 * 4, none⟩) hbp).trans hc0
        have d1 := (LRw.cell (p := ⟨bp, op_ + 0 * 4 + 1, none⟩) hbp).trans hc1
        have d2 := (LRw.cell (p := ⟨bp, op_ + 0 * 4 + 2, none⟩) hbp).trans hc2
        simp only [Nat.zero_mul, Nat.add_zero] at d0 d1 d2 hcu
        obtain ⟨⟨idx, ⟨pk, pv⟩, pA, path, pc⟩, hpe⟩ : ∃ q, q = a := ⟨a, rfl⟩
        subst hpe
        have hrange := leads_range (HALL.out _ (List.mem_singleton.2 rfl))
        simp only at d0 d1 d2 hcu hrange
        have hcz := cmpS_zero pk key
        have hcn := cmpS_neg pk key
        have hcp := cmpS_pos pk key
        obtain ⟨x, hx⟩ : ∃ x, cmpS pk key = x := ⟨_, rfl⟩
        rw [hx] at hcz hcn hcp hcu
        clear hx hpk hc0 hc1 hc2 hc3 hu
        by_cases hkk : pk = key
        · subst hkk
          rw [decide_eq_true rfl] at hcz
          have HRES : Hid (checkF r pk (N : Int) [⟨idx, (pk, pv), pA, path, pc⟩] = (pv, true, true)) := Lib.hid (by rw [HSAY.out, sayF, if_pos rfl])
          have hx0 : x = 0 := by simpa using hcz
          subst hx0
          clear hcz hcn hcp
          go_wp2_with fail
          go_ret3
          exact ⟨by rw [HRES.out]; rfl, by rw [HG3.out]; exact LR.out⟩
        · rw [decide_eq_false hkk] at hcz
          have hx0 : ¬ x = 0 := by simpa using hcz
          cases hlk : ltK pk key with
          | true =>
            have hgk := ltK_asymm hlk
            rw [hlk] at hcn
            rw [hgk] at hcp
            by_cases hlast : idx = (N : Int) - 1
            · have HRES : Hid (checkF r key (N : Int) [⟨idx, (pk, pv), pA, path, pc⟩] = (noB, false, true)) := Lib.hid (by rw [HSAY.out, sayF, if_neg hkk]; simp only [hlk, hgk, hlast]; simp)
              have e5 : (idx == (N : Int) - 1) = true := by rw [hlast]; exact beq_self_eq_true _
              clear hlk hgk
              go_wp2_with fail
              go_ret3
              exact ⟨by rw [HRES.out]; rfl, by rw [HG3.out]; exact LR.out⟩
            · have HRES : Hid (checkF r key (N : Int) [⟨idx, (pk, pv), pA, path, pc⟩] = (noB, false, false)) := Lib.hid (by rw [HSAY.out, sayF, if_neg hkk]; simp only [hlk, hgk]; rw [decide_eq_false hlast]; simp)
              have e5 : (idx == (N : Int) - 1) = false := beq_eq_false_iff_ne.2 hlast
              clear hlk hgk
              go_wp2_with fail
              go_ret3
              exact ⟨by rw [HRES.out]; rfl, by rw [HG3.out]; exact LR.out⟩
          | false =>
            have hgk : ltK key pk = true := by
              cases h : ltK key pk with
              | true => rfl
              | false => exact absurd (ltK_total hlk h) hkk
            rw [hlk] at hcn
            rw [hgk] at hcp
            by_cases hz : idx = 0
            · have HRES : Hid (checkF r key (N : Int) [⟨idx, (pk, pv), pA, path, pc⟩] = (noB, false, true)) := Lib.hid (by rw [HSAY.out, sayF, if_neg hkk]; simp only [hlk, hgk, hz]; simp)
              subst hz
              clear hlk hgk
              go_wp2_with fail
              go_ret3
              exact ⟨by rw [HRES.out]; rfl, by rw [HG3.out]; exact LR.out⟩
            · have HRES : Hid (checkF r key (N : Int) [⟨idx, (pk, pv), pA, path, pc⟩] = (noB, false, false)) := Lib.hid (by rw [HSAY.out, sayF, if_neg hkk]; simp only [hlk, hgk]; rw [decide_eq_false hz]; simp)
              have e5 : (idx == 0) = false := beq_eq_false_iff_ne.2 hz
              clear hlk hgk
              go_wp2_with fail
              go_ret3
              exact ⟨by rw [HRES.out]; rfl, by rw [HG3.out]; exact LR.out⟩
      · obtain ⟨bp, op_, p, rfl, hbp, hpk, hc0, hc1, hc2, hc3⟩ := HP.out.pt (k := 0) (by simp)
        obtain ⟨bp', op_', p', hPe, hbp', hpk', hc0', hc1', hc2', hc3'⟩ := HP.out.pt (k := 1) (by simp)
        injection hPe with hPe
        injection hPe with h1 h2
        subst h1 h2
        obtain rfl : a = p := by simpa using hpk
        obtain rfl : b = p' := by simpa using hpk'
        obtain ⟨bo, oo, u, rfl, hbo, hcu, hu⟩ := HOS.out.one (k := 0) (by simp)
        obtain ⟨bo', oo', u', hPe, hbo', hcu', hu'⟩ := HOS.out.one (k := 1) (by simp)
        injection hPe with hPe
        injection hPe with h1 h2
        subst h1 h2
        obtain rfl : u = .int .i64 (cmpS a.e.1 key) := by
          have : (ordV key [a, b])[0]? = some (.int .i64 (cmpS a.e.1 key)) := rfl
          rw [this] at hu
          exact (Option.some.inj hu).symm
        obtain rfl : u' = .int .i64 (cmpS b.e.1 key) := by
          have : (ordV key [a, b])[1]? = some (.int .i64 (cmpS b.e.1 key)) := rfl
          rw [this] at hu'
          exact (Option.some.inj hu').symm
        have d0 := (LRw.cell (p := ⟨bp, op_ + 0 * 4, none⟩) hbp).trans hc0
        have d1 := (LRw.cell (p := ⟨bp, op_ + 1 * 4, none⟩) hbp).trans hc0'
        simp only [Nat.zero_mul, Nat.one_mul, Nat.add_zero] at d0 d1 hcu
        have hra := leads_range (HALL.out a (by simp))
        have hrb := leads_range (HALL.out b (by simp))
        have hcn := cmpS_neg a.e.1 key
        have hcp := cmpS_pos b.e.1 key
        obtain ⟨x, hx⟩ : ∃ x, cmpS a.e.1 key = x := ⟨_, rfl⟩
        obtain ⟨y, hy⟩ : ∃ y, cmpS b.e.1 key = y := ⟨_, rfl⟩
        obtain ⟨i1, hi1⟩ : ∃ y, a.idx = y := ⟨_, rfl⟩
        obtain ⟨i2, hi2⟩ : ∃ y, b.idx = y := ⟨_, rfl⟩
        rw [hx] at hcn hcu
        rw [hy] at hcp hcu'
        rw [hi1] at d0 hra
        rw [hi2] at d1 hrb
        have hS : checkF r key (N : Int) [a, b] = (noB, false, decide (i2 - i1 = 1) && ltK a.e.1 key && ltK key b.e.1) := by rw [HSAY.out, sayF, hi1, hi2]
        have hiw : IntKind.i64.wrap (i1 + 1) = i1 + 1 := IntWalk.i64_in _ (by omega)
        clear hx hy hi1 hi2 hpk hpk' hc0 hc1 hc2 hc3 hc0' hc1' hc2' hc3' hu hu' hbo' hbp'
        cases hl1 : ltK a.e.1 key with
        | false =>
          rw [hl1] at hcn hS
          have HRES : Hid (checkF r key (N : Int) [a, b] = (noB, false, false)) := Lib.hid (by rw [hS]; simp)
          clear hS hl1
          go_upto_region 19 with fail
          go_quiet (fail)
          go_wp2_with fail
          go_ret3
          exact ⟨by rw [HRES.out]; rfl, by rw [HG3.out]; have hbel := LR.out; have hsz_ := hbel.size; (first | assumption | (repeat (first | exact Below.refl _ _ | assumption | apply Below.drew | apply below_drewN | (refine Below.setCell ?_ (by (try simp) <;> omega) _) | (refine Below.alloc ?_ (by (try simp) <;> omega) _))))⟩
        | true =>
          rw [hl1] at hcn hS
          cases hl2 : ltK key b.e.1 with
          | false =>
            rw [hl2] at hcp hS
            have HRES : Hid (checkF r key (N : Int) [a, b] = (noB, false, false)) := Lib.hid (by rw [hS]; simp)
            clear hS hl1 hl2
            go_upto_region 19 with fail
            go_quiet (fail)
            go_wp2_with fail
            go_ret3
            exact ⟨by rw [HRES.out]; rfl, by rw [HG3.out]; have hbel := LR.out; have hsz_ := hbel.size; (first | assumption | (repeat (first | exact Below.refl _ _ | assumption | apply Below.drew | apply below_drewN | (refine Below.setCell ?_ (by (try simp) <;> omega) _) | (refine Below.alloc ?_ (by (try simp) <;> omega) _))))⟩
          | true =>
            rw [hl2] at hcp hS
            by_cases hii : i1 + 1 = i2
            · have e6 : (i1 + 1 == i2) = true := by rw [hii]; exact beq_self_eq_true _
              have HRES : Hid (checkF r key (N : Int) [a, b] = (noB, false, true)) := Lib.hid (by rw [hS, decide_eq_true (by omega)]; rfl)
              clear hS hl1 hl2
              go_upto_region 19 with fail
              go_quiet (fail)
              go_wp2_with fail
              go_ret3
              exact ⟨by rw [HRES.out]; rfl, by rw [HG3.out]; have hbel := LR.out; have hsz_ := hbel.size; (first | assumption | (repeat (first | exact Below.refl _ _ | assumption | apply Below.drew | apply below_drewN | (refine Below.setCell ?_ (by (try simp) <;> omega) _) | (refine Below.alloc ?_ (by (try simp) <;> omega) _))))⟩
            · have e6 : (i1 + 1 == i2) = false := beq_eq_false_iff_ne.2 hii
              have HRES : Hid (checkF r key (N : Int) [a, b] = (noB, false, false)) := Lib.hid (by rw [hS, decide_eq_false (by omega)]; rfl)
              clear hS hl1 hl2
              go_upto_region 19 with fail
              go_quiet (fail)
              go_wp2_with fail
              go_ret3
              exact ⟨by rw [HRES.out]; rfl, by rw [HG3.out]; have hbel := LR.out; have hsz_ := hbel.size; (first | assumption | (repeat (first | exact Below.refl _ _ | assumption | apply Below.drew | apply below_drewN | (refine Below.setCell ?_ (by (try simp) <;> omega) _) | (refine Below.alloc ?_ (by (try simp) <;> omega) _))))⟩
      · exact absurd (by simp) hn2
end Go.Proofs.YtdeikpifflkabaaDoor

namespace Go.Proofs.YtdeikpifflkabaaDoor
open Go.RowKit Go.Shelf
set_option linter.unusedVariables false
set_option linter.unusedSimpArgs false

theorem rleads_part (r : List UInt8) (hr32 : r.length = 32) (p : PartV) (N : Nat) (w : World) (hN : N ≤ 4096) (hf : p.fits) (hg : p.good w) :
    Calls Tryd.prog 35 #[.agg (bts r).toArray, .agg #[.int .i64 p.idx, .string p.e.1, .string p.e.2, .slice p.A p.path.length p.c], .int .i64 (N : Int)] w fun en w' => en = .returned (.bool (p.leads r N)) ∧ Below w.heap.size w w' := by
  by_cases h : 0 ≤ p.idx ∧ p.idx < (N : Int)
  · obtain ⟨i, hi⟩ : ∃ i : Nat, p.idx = (i : Int) := ⟨p.idx.toNat, by omega⟩
    have := rleads_in r hr32 i p.e hf.1 hf.2.1 p.A p.path p.c N w (by omega) hN hf.2.2 hg.le hg.cm hg.h hg.sl
    rw [← hi] at this
    exact this
  · have := rleads_out r p.idx p.e p.A p.path.length p.c N w h
    rw [← leadsF_out (r := r) (e := p.e) (path := p.path) h] at this
    exact this

attribute [local irreducible] digF
set_option maxRecDepth 100000 in
set_option maxHeartbeats 8000000 in
theorem rcheck_any (r : List UInt8) (hr32 : r.length = 32) (key : ByteArray) (size : Int) (ps : List PartV) (P : Option Addr) (c : Nat) (w : World) (hs1 : -9223372036854775808 ≤ size) (hs2 : size < 9223372036854775808) (hn : ps.length ≤ 1000) (hf : ∀ p ∈ ps, p.fits) (hg : ∀ p ∈ ps, p.good w)
    (hP : Sl w w.heap.size 4 P ps.length (pCells ps)) :
    Calls Tryd.prog 16 #[.agg (bts r).toArray, .string key, .agg #[.int .i64 size, .slice P ps.length c]] w fun e w' => e = .returned (resV (checkF r key size ps)) ∧ Below w.heap.size w w' := by
  have HF := Lib.hid hf
  have HG := Lib.hid hg
  have HP := Lib.hid hP
  clear hf hg hP
  obtain ⟨g3, hg3⟩ : ∃ g, w.heap.size = g := ⟨_, rfl⟩
  have HG3 := Lib.hid hg3
  go_enter Tryd.func16, Tryd.ntmps16
  go_upto_region 1 with fail
  have K3 := (Bk.new w 26 (bts r).toArray).alloc (.cells #[.int .i64 size, .slice P ps.length c] 38)
  have K4 := Bk.new (w.alloc (.cells (bts r).toArray 26)) 38 #[.int .i64 size, .slice P ps.length c]
  have L2 : Below w.heap.size w ((w.alloc (.cells (bts r).toArray 26)).alloc (.cells #[.int .i64 size, .slice P ps.length c] 38)) := (by (first | assumption | (repeat (first | exact Below.refl _ _ | assumption | apply Below.drew | apply below_drewN | (refine Below.setCell ?_ (by (try simp) <;> omega) _) | (refine Below.alloc ?_ (by (try simp) <;> omega) _)))))
  rw [World.size_alloc] at K4
  obtain ⟨w2, hw2⟩ : ∃ W, (w.alloc (.cells (bts r).toArray 26)).alloc (.cells #[.int .i64 size, .slice P ps.length c] 38) = W := ⟨_, rfl⟩
  have z2 : w2.heap.size = g3 + 2 := by rw [← hw2, World.size_alloc, World.size_alloc, hg3]
  rw [hw2] at K3 K4 L2 ⊢
  rw [hg3] at K3 K4 L2
  have x0 : w2.cell? ⟨g3 + 1, 0, none⟩ = some (.int .i64 size) := K4.cell 0
  have x1 : w2.cell? ⟨g3 + 1, 1, none⟩ = some (.slice P ps.length c) := K4.cell 1
  have HK3 := Lib.hid K3
  have HK4 := Lib.hid K4
  have HL2 := Lib.hid L2
  have HZ2 := Lib.hid z2
  clear hw2 K3 K4 L2 hg3 z2
  by_cases hsz0 : size < 0
  · have e1 : decide (size < 0) = true := decide_eq_true hsz0
    have HRES := Lib.hid (checkF_bad (r := r) (key := key) (ps := ps) (.inl hsz0))
    go_wp2_with fail
    go_ret3
    exact ⟨by rw [HRES.out]; rfl, by rw [HG3.out]; exact HL2.out⟩
  have e1 : decide (size < 0) = false := decide_eq_false hsz0
  by_cases hsz1 : 4096 < size
  · have e2 : decide (4096 < size) = true := decide_eq_true hsz1
    have HRES := Lib.hid (checkF_bad (r := r) (key := key) (ps := ps) (.inr hsz1))
    go_wp2_with fail
    go_ret3
    exact ⟨by rw [HRES.out]; rfl, by rw [HG3.out]; exact HL2.out⟩
  have e2 : decide (4096 < size) = false := decide_eq_false hsz1
  obtain ⟨N, rfl⟩ : ∃ N : Nat, size = N := ⟨size.toNat, by omega⟩
  have hN : N ≤ 4096 := by omega
  go_wp2_with fail
  clear e1 e2 x0 x1
  go_loopw [9] (fun cn wr => ∃ (k : Nat), k ≤ ps.length ∧ cn = .int .i64 k ∧ (∀ p ∈ ps.take k, p.leads r N = true) ∧ Below (g3 + 2) w2 wr) (fun cn _ => ps.length - (intOf cn).toNat)
  case atStart => exact ⟨0, by omega, rfl, fun p hp => (by simp at hp), Below.refl _ _⟩
  case round =>
    obtain ⟨k, hk, rfl, hall, hbel⟩ := hrel
    have HAll := Lib.hid hall
    have HB := Lib.hid hbel
    have KR3 := Lib.hid (HK3.out.below hbel (by omega))
    have KR4 := Lib.hid (HK4.out.below hbel (by omega))
    have LR := Lib.hid (HL2.out.trans (hbel.mono (by omega)))
    have HZr : Hid (g3 + 2 ≤ wr.heap.size) := Lib.hid (by have := hbel.size; have := HZ2.out; omega)
    clear hall hbel
    have LRw : Below w.heap.size w wr := LR.out.mono (Nat.le_of_eq HG3.out)
    have v0 := KR4.out.cell 0
    have v1 := KR4.out.cell 1
    by_cases hlt : k < ps.length
    · have hlt' : (k : Int) < (ps.length : Int) := by omega
      obtain ⟨b, off, p, rfl, hb, hpk, hc0, hc1, hc2, hc3⟩ := HP.out.pt hlt
      have hpm := List.mem_of_getElem? hpk
      have HFP := Lib.hid (HF.out p hpm)
      have HGP := Lib.hid (HG.out p hpm)
      have HPK := Lib.hid hpk
      obtain ⟨⟨idx, ⟨pk, pv⟩, pA, path, pc⟩, hpe⟩ : ∃ q, q = p := ⟨p, rfl⟩
      subst hpe
      simp only at hc0 hc1 hc2 hc3
      have hw0 : ∀ x : BW wr, Below w.heap.size w x.val := fun x => LRw.trans (x.below.mono LRw.size)
      have d0 : ∀ x : BW wr, x.val.cell? ⟨b, off + k * 4, none⟩ = some (.int .i64 idx) := fun x => ((hw0 x).cell (p := ⟨b, off + k * 4, none⟩) hb).trans hc0
      have d1 : ∀ x : BW wr, x.val.cell? ⟨b, off + k * 4 + 1, none⟩ = some (.string pk) := fun x => ((hw0 x).cell (p := ⟨b, off + k * 4 + 1, none⟩) hb).trans hc1
      have d2 : ∀ x : BW wr, x.val.cell? ⟨b, off + k * 4 + 2, none⟩ = some (.string pv) := fun x => ((hw0 x).cell (p := ⟨b, off + k * 4 + 2, none⟩) hb).trans hc2
      have d3 : ∀ x : BW wr, x.val.cell? ⟨b, off + k * 4 + 3, none⟩ = some (.slice pA path.length pc) := fun x => ((hw0 x).cell (p := ⟨b, off + k * 4 + 3, none⟩) hb).trans hc3
      have y0 : ∀ x : BW wr, x.val.cell? ⟨g3 + 1, 0, none⟩ = some (.int .i64 (N : Int)) := fun x => (x.below.cell (p := ⟨g3 + 1, 0, none⟩) KR4.out.lt).trans v0
      have y1 : ∀ x : BW wr, x.val.cell? ⟨g3 + 1, 1, none⟩ = some (.slice (some ⟨b, off, none⟩) ps.length c) := fun x => (x.below.cell (p := ⟨g3 + 1, 1, none⟩) KR4.out.lt).trans v1
      obtain ⟨lb, hlb⟩ : ∃ l, PartV.leads r N ⟨idx, (pk, pv), pA, path, pc⟩ = l := ⟨_, rfl⟩
      have HLB := Lib.hid hlb
      have Q1 := Lib.hid (show ∀ x : BW wr, Calls Tryd.prog 35 #[.agg (bts r).toArray, .agg #[.int .i64 idx, .string pk, .string pv, .slice pA path.length pc], .int .i64 (N : Int)] x.val fun e w' => e = .returned (.bool lb) ∧ Below x.val.heap.size x.val w' from fun x => by
        have := rleads_part r hr32 ⟨idx, (pk, pv), pA, path, pc⟩ N x.val hN HFP.out (HGP.out.below (hw0 x))
        rwa [hlb] at this)
      clear hc0 hc1 hc2 hc3 hpm hpk hw0 hlb LRw
      go_upto_region 6 with fail
      clear v0 v1
      refine wp_region_bw (by kernel_rfl) (by kernel_rfl) ?_
      go_big_quiet_want; (with_reducible apply quiet_val)
      case hr => exact fun W hW => run_ldh _ (by rfl) g3 0 (by rfl) r hr32 (bw_range hW KR3.out.all KR3.out.lt)
      go_simp
      go_big_quiet_on
      go_big_quiet_step (fail)
      go_big_quiet_step (fail)
      go_big_quiet_step (fail)
      go_big_quiet_step (fail)
      go_big_quiet_step (fail)
      go_big_quiet_step (fail)
      go_big_quiet_step (fail)
      go_big_quiet_step (exact quiet_bw _ (Q1.out _))
      go_big_quiet_step (fail)
      refine wpQuiet_nil ?_; intro _ hwq; obtain ⟨⟨wq, hbq⟩, hwq'⟩ := hwq; subst hwq'
      clear d0 d1 d2 d3 y0 y1
      have HBQ := Lib.hid (HB.out.trans (hbq.mono HZr.out))
      have LRQ := Lib.hid (LR.out.trans (hbq.mono (by have := LR.out.size; have := HG3.out; omega)))
      clear hbq Q1
      cases lb with
      | false =>
        have HRES := Lib.hid (checkF_not (key := key) HPK.out HLB.out)
        go_wp2_with fail
        go_ret3
        exact ⟨by rw [HRES.out]; rfl, by rw [HG3.out]; exact LRQ.out⟩
      | true =>
        have HAll' : Hid (∀ p ∈ ps.take (k + 1), p.leads r N = true) := Lib.hid (fun q hq => by
          rw [take_at HPK.out, List.mem_append] at hq
          rcases hq with hq | hq
          · exact HAll.out q hq
          · rw [List.mem_singleton] at hq
            rw [hq]
            exact HLB.out)
        go_wp2_with fail
        go_roundw
        case rel => exact ⟨k + 1, by omega, by go_num, HAll'.out, HBQ.out⟩
        case measure => simp [intOf]; omega
    · obtain rfl : k = ps.length := by omega
      have hall' : ∀ p ∈ ps, p.leads r N = true := fun p hp => HAll.out p (by rw [List.take_length]; exact hp)
      have hsay := checkF_say (r := r) (key := key) hN (ps := ps) hall'
      have HSAY := Lib.hid hsay
      have HALL := Lib.hid hall'
      have hNw : IntKind.i64.wrap ((N : Int) - 1) = (N : Int) - 1 := IntWalk.i64_in _ (by omega)
      clear hsay hall' HAll
      by_cases hn2 : 2 < ps.length
      · have HRES := Lib.hid (checkF_many (r := r) (key := key) (size := (N : Int)) hn2)
        have e7 : ((ps.length : Int) == 1) = false := beq_eq_false_iff_ne.2 (by omega)
        have e8 : ((ps.length : Int) == 2) = false := beq_eq_false_iff_ne.2 (by omega)
        have e9 : ((ps.length : Int) == 0) = false := beq_eq_false_iff_ne.2 (by omega)
        go_wp2_with fail
        go_ret3
        exact ⟨by rw [HRES.out]; rfl, by rw [HG3.out]; exact LR.out⟩
      rcases ps with _ | ⟨a, _ | ⟨b, _ | ⟨d, rest⟩⟩⟩
      · obtain ⟨J, hJ⟩ : ∃ J, digF [] = J := ⟨_, rfl⟩
        have hJl : J.length = 32 := by rw [← hJ, digF_len]
        have v0w : ∀ x : BW wr, x.val.cell? ⟨g3 + 1, 0, none⟩ = some (.int .i64 (N : Int)) := fun x => (x.below.cell (p := ⟨g3 + 1, 0, none⟩) KR4.out.lt).trans v0
        by_cases hN0 : N = 0
        · subst hN0
          obtain ⟨res, hres⟩ : ∃ q, (r == J) = q := ⟨_, rfl⟩
          have HRES : Hid (checkF r key ((0 : Nat) : Int) [] = (noB, false, res)) := Lib.hid (by rw [HSAY.out, sayF, hJ, hres]; rfl)
          have hEQ := Lib.hid fun (o : Oper) (a : Act) (W : World) (x y : Operand) (ty : TypeId) (ho : o.op = .binOp .eql 26 x y ty) (hx : a.eval x = .agg (bts r).toArray) (hy : a.eval y = .agg (bts J).toArray) => run_eqh (w := W) x y ty ho r J hx hy hr32 hJl
          rw [hres] at hEQ
          have Q1 := Lib.hid (show ∀ x : BW wr, Calls Tryd.prog 28 #[.slice none 0 0] x.val fun e w' => e = .returned (.agg (bts J).toArray) ∧ Below x.val.heap.size x.val w' from fun x => by
            have hc0 : Calls Tryd.prog 28 #[.slice none 0 0] x.val _ := rsum_any none [] 0 x.val (by simp) (by simp) (Sl.nil _ _ _ _)
            rwa [hJ] at hc0)
          clear hJ hres LRw
          go_upto_region 11 with fail
          clear v0 v1
          refine wp_region_bw (by kernel_rfl) (by kernel_rfl) ?_
          go_big_quiet_step (fail)
          go_big_quiet_step (fail)
          go_big_quiet_step (fail)
          go_big_quiet_step (fail)
          go_big_quiet_want; (with_reducible apply quiet_val)
          case hr => exact fun W hW => run_ldh _ (by rfl) g3 0 (by rfl) r hr32 (bw_range hW KR3.out.all KR3.out.lt)
          go_simp
          go_big_quiet_on
          go_big_quiet_step (exact quiet_bw _ (Q1.out _))
          go_big_quiet_want; (with_reducible apply quiet_val)
          case hr => exact fun W hW => hEQ.out _ _ W _ _ _ (by rfl) (by rfl) (by rfl)
          go_simp
          go_big_quiet_on
          repeat go_big_quiet_step (fail)
          refine wpQuiet_nil ?_; intro _ hwq; obtain ⟨⟨wq, hbq⟩, hwq'⟩ := hwq; subst hwq'
          go_wp2_with fail
          go_ret3
          exact ⟨by rw [HRES.out]; rfl, by rw [HG3.out]; exact LR.out.trans (hbq.mono (by have := LR.out.size; have := HG3.out; omega))⟩
        · have e5 : ((N : Int) == 0) = false := beq_eq_false_iff_ne.2 (by omega)
          have HRES : Hid (checkF r key (N : Int) [] = (noB, false, false)) := Lib.hid (by rw [HSAY.out, sayF, decide_eq_false hN0]; rfl)
          clear hJ LRw
          go_upto_region 11 with fail
          clear v0 v1
          refine wp_region_bw (by kernel_rfl) (by kernel_rfl) ?_
          repeat go_big_quiet_step (fail)
          refine wpQuiet_nil ?_; intro _ hwq; obtain ⟨⟨wq, hbq⟩, hwq'⟩ := hwq; subst hwq'
          go_wp2_with fail
          go_ret3
          exact ⟨by rw [HRES.out]; rfl, by rw [HG3.out]; exact LR.out.trans (hbq.mono (by have := LR.out.size; have := HG3.out; omega))⟩
      · obtain ⟨bp, op_, p, rfl, hbp, hpk, hc0, hc1, hc2, hc3⟩ := HP.out.pt (k := 0) (by simp)
        obtain rfl : a = p := by simpa using hpk
        have d0 := (LRw.cell (p := ⟨bp, op_ + 0 * 4, none⟩) hbp).trans hc0
        have d1 := (LRw.cell (p := ⟨bp, op_ + 0 * 4 + 1, none⟩) hbp).trans hc1
        have d2 := (LRw.cell (p := ⟨bp, op_ + 0 * 4 + 2, none⟩) hbp).trans hc2
        have d3 := (LRw.cell (p := ⟨bp, op_ + 0 * 4 + 3, none⟩) hbp).trans hc3
        simp only [Nat.zero_mul, Nat.add_zero] at d0 d1 d2 d3
        obtain ⟨⟨idx, ⟨pk, pv⟩, pA, path, pc⟩, hpe⟩ : ∃ q, q = a := ⟨a, rfl⟩
        subst hpe
        have hrange := leads_range (HALL.out _ (List.mem_singleton.2 rfl))
        simp only at d0 d1 d2 d3 hrange
        clear hpk hc0 hc1 hc2 hc3
        go_upto_region 14 with fail
        have K7 := Bk.new wr 41 #[.int .i64 idx, .string pk, .string pv, .slice pA path.length pc]
        have L7 : Below wr.heap.size wr (wr.alloc (.cells #[.int .i64 idx, .string pk, .string pv, .slice pA path.length pc] 41)) := (by (first | assumption | (repeat (first | exact Below.refl _ _ | assumption | apply Below.drew | apply below_drewN | (refine Below.setCell ?_ (by (try simp) <;> omega) _) | (refine Below.alloc ?_ (by (try simp) <;> omega) _)))))
        obtain ⟨w7, hw7⟩ : ∃ W, wr.alloc (.cells #[.int .i64 idx, .string pk, .string pv, .slice pA path.length pc] 41) = W := ⟨_, rfl⟩
        rw [hw7] at K7 L7 ⊢
        have y0 : w7.cell? ⟨wr.heap.size, 0, none⟩ = some (.int .i64 idx) := K7.cell 0
        have y1 : w7.cell? ⟨wr.heap.size, 1, none⟩ = some (.string pk) := K7.cell 1
        have y2 : w7.cell? ⟨wr.heap.size, 2, none⟩ = some (.string pv) := K7.cell 2
        have v0' : w7.cell? ⟨g3 + 1, 0, none⟩ = some (.int .i64 (N : Int)) := (KR4.out.below L7 KR4.out.lt).cell 0
        have LR7 := Lib.hid (LR.out.trans (L7.mono (by have := HZr.out; omega)))
        clear hw7 K7 L7 d0 d1 d2 d3 v0 v1 LRw
        by_cases hkk : pk = key
        · subst hkk
          have HRES : Hid (checkF r pk (N : Int) [⟨idx, (pk, pv), pA, path, pc⟩] = (pv, true, true)) := Lib.hid (by rw [HSAY.out, sayF, if_pos rfl])
          go_wp2_with fail
          go_ret3
          exact ⟨by rw [HRES.out]; rfl, by rw [HG3.out]; exact LR7.out⟩
        · have hq1 : (pk.toList == key.toList) = false := by rw [eqK, decide_eq_false hkk]
          have hq2 : ¬ pk.toList = key.toList := by simpa using hq1
          cases hlk : ltK pk key with
          | true =>
            have hgk := ltK_asymm hlk
            have hb1 : Op.bytesLess pk.toList key.toList = true := hlk
            by_cases hz : idx = 0
            · have e5 : (idx == 0) = true := by rw [hz]; rfl
              by_cases hlast : idx = (N : Int) - 1
              · have HRES : Hid (checkF r key (N : Int) [⟨idx, (pk, pv), pA, path, pc⟩] = (noB, false, true)) := Lib.hid (by rw [HSAY.out, sayF, if_neg hkk]; simp only [hlk, hgk, hlast]; simp)
                have e6 : (idx == (N : Int) - 1) = true := by rw [hlast]; exact beq_self_eq_true _
                clear hlk hgk
                (try clear hlast)
                (try clear hz)
                go_upto_region 16 with fail
                go_quiet (fail)
                go_wp2_with fail
                go_ret3
                exact ⟨by rw [HRES.out]; rfl, by rw [HG3.out]; have hbel := LR7.out; have hsz_ := hbel.size; (first | assumption | (repeat (first | exact Below.refl _ _ | assumption | apply Below.drew | apply below_drewN | (refine Below.setCell ?_ (by (try simp) <;> omega) _) | (refine Below.alloc ?_ (by (try simp) <;> omega) _))))⟩
              · have HRES : Hid (checkF r key (N : Int) [⟨idx, (pk, pv), pA, path, pc⟩] = (noB, false, false)) := Lib.hid (by rw [HSAY.out, sayF, if_neg hkk]; simp only [hlk, hgk]; rw [decide_eq_false hlast]; simp)
                have e6 : (idx == (N : Int) - 1) = false := beq_eq_false_iff_ne.2 hlast
                clear hlk hgk
                (try clear hlast)
                (try clear hz)
                go_upto_region 16 with fail
                go_quiet (fail)
                go_wp2_with fail
                go_ret3
                exact ⟨by rw [HRES.out]; rfl, by rw [HG3.out]; have hbel := LR7.out; have hsz_ := hbel.size; (first | assumption | (repeat (first | exact Below.refl _ _ | assumption | apply Below.drew | apply below_drewN | (refine Below.setCell ?_ (by (try simp) <;> omega) _) | (refine Below.alloc ?_ (by (try simp) <;> omega) _))))⟩
            · have e5 : (idx == 0) = false := beq_eq_false_iff_ne.2 hz
              by_cases hlast : idx = (N : Int) - 1
              · have HRES : Hid (checkF r key (N : Int) [⟨idx, (pk, pv), pA, path, pc⟩] = (noB, false, true)) := Lib.hid (by rw [HSAY.out, sayF, if_neg hkk]; simp only [hlk, hgk, hlast]; simp)
                have e6 : (idx == (N : Int) - 1) = true := by rw [hlast]; exact beq_self_eq_true _
                clear hlk hgk
                (try clear hlast)
                (try clear hz)
                go_upto_region 16 with fail
                go_quiet (fail)
                go_wp2_with fail
                go_ret3
                exact ⟨by rw [HRES.out]; rfl, by rw [HG3.out]; have hbel := LR7.out; have hsz_ := hbel.size; (first | assumption | (repeat (first | exact Below.refl _ _ | assumption | apply Below.drew | apply below_drewN | (refine Below.setCell ?_ (by (try simp) <;> omega) _) | (refine Below.alloc ?_ (by (try simp) <;> omega) _))))⟩
              · have HRES : Hid (checkF r key (N : Int) [⟨idx, (pk, pv), pA, path, pc⟩] = (noB, false, false)) := Lib.hid (by rw [HSAY.out, sayF, if_neg hkk]; simp only [hlk, hgk]; rw [decide_eq_false hlast]; simp)
                have e6 : (idx == (N : Int) - 1) = false := beq_eq_false_iff_ne.2 hlast
                clear hlk hgk
                (try clear hlast)
                (try clear hz)
                go_upto_region 16 with fail
                go_quiet (fail)
                go_wp2_with fail
                go_ret3
                exact ⟨by rw [HRES.out]; rfl, by rw [HG3.out]; have hbel := LR7.out; have hsz_ := hbel.size; (first | assumption | (repeat (first | exact Below.refl _ _ | assumption | apply Below.drew | apply below_drewN | (refine Below.setCell ?_ (by (try simp) <;> omega) _) | (refine Below.alloc ?_ (by (try simp) <;> omega) _))))⟩
          | false =>
            have hgk : ltK key pk = true := by
              cases h : ltK key pk with
              | true => rfl
              | false => exact absurd (ltK_total hlk h) hkk
            have hb1 : Op.bytesLess pk.toList key.toList = false := hlk
            by_cases hz : idx = 0
            · have HRES : Hid (checkF r key (N : Int) [⟨idx, (pk, pv), pA, path, pc⟩] = (noB, false, true)) := Lib.hid (by rw [HSAY.out, sayF, if_neg hkk]; simp only [hlk, hgk, hz]; simp)
              have e5 : (idx == 0) = true := by rw [hz]; rfl
              clear hlk hgk
              (try clear hlast)
              (try clear hz)
              go_upto_region 16 with fail
              go_quiet (fail)
              go_wp2_with fail
              go_ret3
              exact ⟨by rw [HRES.out]; rfl, by rw [HG3.out]; have hbel := LR7.out; have hsz_ := hbel.size; (first | assumption | (repeat (first | exact Below.refl _ _ | assumption | apply Below.drew | apply below_drewN | (refine Below.setCell ?_ (by (try simp) <;> omega) _) | (refine Below.alloc ?_ (by (try simp) <;> omega) _))))⟩
            · have e5 : (idx == 0) = false := beq_eq_false_iff_ne.2 hz
              have HRES : Hid (checkF r key (N : Int) [⟨idx, (pk, pv), pA, path, pc⟩] = (noB, false, false)) := Lib.hid (by rw [HSAY.out, sayF, if_neg hkk]; simp only [hlk, hgk]; rw [decide_eq_false hz]; simp)
              by_cases hlast : idx = (N : Int) - 1
              · have e6 : (idx == (N : Int) - 1) = true := by rw [hlast]; exact beq_self_eq_true _
                clear hlk hgk
                (try clear hlast)
                (try clear hz)
                go_upto_region 16 with fail
                go_quiet (fail)
                go_wp2_with fail
                go_ret3
                exact ⟨by rw [HRES.out]; rfl, by rw [HG3.out]; have hbel := LR7.out; have hsz_ := hbel.size; (first | assumption | (repeat (first | exact Below.refl _ _ | assumption | apply Below.drew | apply below_drewN | (refine Below.setCell ?_ (by (try simp) <;> omega) _) | (refine Below.alloc ?_ (by (try simp) <;> omega) _))))⟩
              · have e6 : (idx == (N : Int) - 1) = false := beq_eq_false_iff_ne.2 hlast
                clear hlk hgk
                (try clear hlast)
                (try clear hz)
                go_upto_region 16 with fail
                go_quiet (fail)
                go_wp2_with fail
                go_ret3
                exact ⟨by rw [HRES.out]; rfl, by rw [HG3.out]; have hbel := LR7.out; have hsz_ := hbel.size; (first | assumption | (repeat (first | exact Below.refl _ _ | assumption | apply Below.drew | apply below_drewN | (refine Below.setCell ?_ (by (try simp) <;> omega) _) | (refine Below.alloc ?_ (by (try simp) <;> omega) _))))⟩
      · obtain ⟨bp, op_, p, rfl, hbp, hpk, hc0, hc1, hc2, hc3⟩ := HP.out.pt (k := 0) (by simp)
        obtain ⟨bp', op_', p', hPe, hbp', hpk', hc0', hc1', hc2', hc3'⟩ := HP.out.pt (k := 1) (by simp)
        injection hPe with hPe
        injection hPe with h1 h2
        subst h1 h2
        obtain rfl : a = p := by simpa using hpk
        obtain rfl : b = p' := by simpa using hpk'
        have hra := leads_range (HALL.out a (by simp))
        have hrb := leads_range (HALL.out b (by simp))
        obtain ⟨⟨i1, ⟨ak, av⟩, aA, apath, ac⟩, hpe⟩ : ∃ q, q = a := ⟨a, rfl⟩
        subst hpe
        obtain ⟨⟨i2, ⟨bk, bv⟩, bA, bpath, bc⟩, hpe⟩ : ∃ q, q = b := ⟨b, rfl⟩
        subst hpe
        simp only at hc0 hc1 hc2 hc3 hc0' hc1' hc2' hc3' hra hrb
        have d0 := (LRw.cell (p := ⟨bp, op_ + 0 * 4, none⟩) hbp).trans hc0
        have d1 := (LRw.cell (p := ⟨bp, op_ + 0 * 4 + 1, none⟩) hbp).trans hc1
        have d2 := (LRw.cell (p := ⟨bp, op_ + 0 * 4 + 2, none⟩) hbp).trans hc2
        have d3 := (LRw.cell (p := ⟨bp, op_ + 0 * 4 + 3, none⟩) hbp).trans hc3
        simp only [Nat.zero_mul, Nat.add_zero] at d0 d1 d2 d3
        go_upto_region 19 with fail
        have K7 := Bk.new wr 41 #[.int .i64 i1, .string ak, .string av, .slice aA apath.length ac]
        have L7 : Below wr.heap.size wr (wr.alloc (.cells #[.int .i64 i1, .string ak, .string av, .slice aA apath.length ac] 41)) := (by (first | assumption | (repeat (first | exact Below.refl _ _ | assumption | apply Below.drew | apply below_drewN | (refine Below.setCell ?_ (by (try simp) <;> omega) _) | (refine Below.alloc ?_ (by (try simp) <;> omega) _)))))
        obtain ⟨w7, hw7⟩ : ∃ W, wr.alloc (.cells #[.int .i64 i1, .string ak, .string av, .slice aA apath.length ac] 41) = W := ⟨_, rfl⟩
        rw [hw7] at K7 L7 ⊢
        obtain ⟨ga, hga⟩ : ∃ g, wr.heap.size = g := ⟨_, rfl⟩
        have HGA := Lib.hid hga
        rw [hga] at K7 ⊢
        have LR7 := Lib.hid (LR.out.trans (L7.mono (by have := HZr.out; omega)))
        have LW7 : Below w.heap.size w w7 := LR7.out.mono (Nat.le_of_eq HG3.out)
        have KR47 := KR4.out.below L7 KR4.out.lt
        have v1' : w7.cell? ⟨g3 + 1, 1, none⟩ = some (.slice (some ⟨bp, op_, none⟩) [(⟨i1, (ak, av), aA, apath, ac⟩ : PartV), ⟨i2, (bk, bv), bA, bpath, bc⟩].length c) := KR47.cell 1
        have f0 := (LW7.cell (p := ⟨bp, op_ + 1 * 4, none⟩) hbp).trans hc0'
        have f1 := (LW7.cell (p := ⟨bp, op_ + 1 * 4 + 1, none⟩) hbp).trans hc1'
        have f2 := (LW7.cell (p := ⟨bp, op_ + 1 * 4 + 2, none⟩) hbp).trans hc2'
        have f3 := (LW7.cell (p := ⟨bp, op_ + 1 * 4 + 3, none⟩) hbp).trans hc3'
        simp only [Nat.one_mul] at f0 f1 f2 f3
        have HK7 := Lib.hid K7
        have HZ7 : Hid (g3 + 2 ≤ w7.heap.size) := Lib.hid (by have := L7.size; have := HZr.out; omega)
        clear hw7 K7 L7 hga d0 d1 d2 d3 v0 v1 LRw LW7 hpk hpk' hc0 hc1 hc2 hc3 hc0' hc1' hc2' hc3' KR47
        go_upto_region 20 with fail
        have K8 := Bk.new w7 41 #[.int .i64 i2, .string bk, .string bv, .slice bA bpath.length bc]
        have L8 : Below w7.heap.size w7 (w7.alloc (.cells #[.int .i64 i2, .string bk, .string bv, .slice bA bpath.length bc] 41)) := (by (first | assumption | (repeat (first | exact Below.refl _ _ | assumption | apply Below.drew | apply below_drewN | (refine Below.setCell ?_ (by (try simp) <;> omega) _) | (refine Below.alloc ?_ (by (try simp) <;> omega) _)))))
        obtain ⟨w8, hw8⟩ : ∃ W, w7.alloc (.cells #[.int .i64 i2, .string bk, .string bv, .slice bA bpath.length bc] 41) = W := ⟨_, rfl⟩
        rw [hw8] at K8 L8 ⊢
        have K78 := HK7.out.below L8 HK7.out.lt
        have y0 : w8.cell? ⟨ga, 0, none⟩ = some (.int .i64 i1) := K78.cell 0
        have y1 : w8.cell? ⟨ga, 1, none⟩ = some (.string ak) := K78.cell 1
        have u0 : w8.cell? ⟨w7.heap.size, 0, none⟩ = some (.int .i64 i2) := K8.cell 0
        have u1 : w8.cell? ⟨w7.heap.size, 1, none⟩ = some (.string bk) := K8.cell 1
        have LR8 := Lib.hid (LR7.out.trans (L8.mono (by have := HZ7.out; omega)))
        have hiw : IntKind.i64.wrap (i2 - i1) = i2 - i1 := IntWalk.i64_in _ (by omega)
        have hS : checkF r key (N : Int) [⟨i1, (ak, av), aA, apath, ac⟩, ⟨i2, (bk, bv), bA, bpath, bc⟩] = (noB, false, decide (i2 - i1 = 1) && ltK ak key && ltK key bk) := by rw [HSAY.out, sayF]
        clear hw8 K8 L8 K78 f0 f1 f2 f3 v1'
        by_cases hii : i2 - i1 = 1
        · rw [decide_eq_true hii] at hS
          have e6 : (i2 - i1 == 1) = true := by rw [hii]; rfl
          cases hl1 : ltK ak key with
          | false =>
            rw [hl1] at hS
            have hb1 : Op.bytesLess ak.toList key.toList = false := hl1
            have HRES : Hid (checkF r key (N : Int) [⟨i1, (ak, av), aA, apath, ac⟩, ⟨i2, (bk, bv), bA, bpath, bc⟩] = (noB, false, false)) := Lib.hid (by rw [hS]; simp)
            clear hS
            (try clear hl1)
            (try clear hl2)
            (try clear hkb)
            (try clear hii)
            go_quiet (fail)
            go_wp2_with fail
            go_ret3
            exact ⟨by rw [HRES.out]; rfl, by rw [HG3.out]; have hbel := LR8.out; have hsz_ := hbel.size; (first | assumption | (repeat (first | exact Below.refl _ _ | assumption | apply Below.drew | apply below_drewN | (refine Below.setCell ?_ (by (try simp) <;> omega) _) | (refine Below.alloc ?_ (by (try simp) <;> omega) _))))⟩
          | true =>
            rw [hl1] at hS
            have hb1 : Op.bytesLess ak.toList key.toList = true := hl1
            cases hl2 : ltK key bk with
            | true =>
              rw [hl2] at hS
              have hb2 : Op.bytesLess bk.toList key.toList = false := ltK_asymm hl2
              have hq1 : (bk.toList == key.toList) = false := by
                rw [eqK, decide_eq_false]
                rintro rfl
                rw [ltK_irrefl] at hl2
                cases hl2
              have hq2 : ¬ bk.toList = key.toList := by simpa using hq1
              have HRES : Hid (checkF r key (N : Int) [⟨i1, (ak, av), aA, apath, ac⟩, ⟨i2, (bk, bv), bA, bpath, bc⟩] = (noB, false, true)) := Lib.hid (by rw [hS]; simp)
              clear hS
              (try clear hl1)
              (try clear hl2)
              (try clear hkb)
              (try clear hii)
              go_quiet (fail)
              go_wp2_with fail
              go_ret3
              exact ⟨by rw [HRES.out]; rfl, by rw [HG3.out]; have hbel := LR8.out; have hsz_ := hbel.size; (first | assumption | (repeat (first | exact Below.refl _ _ | assumption | apply Below.drew | apply below_drewN | (refine Below.setCell ?_ (by (try simp) <;> omega) _) | (refine Below.alloc ?_ (by (try simp) <;> omega) _))))⟩
            | false =>
              rw [hl2] at hS
              have HRES : Hid (checkF r key (N : Int) [⟨i1, (ak, av), aA, apath, ac⟩, ⟨i2, (bk, bv), bA, bpath, bc⟩] = (noB, false, false)) := Lib.hid (by rw [hS]; simp)
              cases hl3 : ltK bk key with
              | true =>
                have hb2 : Op.bytesLess bk.toList key.toList = true := hl3
                clear hS
                (try clear hl1)
                (try clear hl2)
                (try clear hkb)
                (try clear hii)
                go_quiet (fail)
                go_wp2_with fail
                go_ret3
                exact ⟨by rw [HRES.out]; rfl, by rw [HG3.out]; have hbel := LR8.out; have hsz_ := hbel.size; (first | assumption | (repeat (first | exact Below.refl _ _ | assumption | apply Below.drew | apply below_drewN | (refine Below.setCell ?_ (by (try simp) <;> omega) _) | (refine Below.alloc ?_ (by (try simp) <;> omega) _))))⟩
              | false =>
                have hb2 : Op.bytesLess bk.toList key.toList = false := hl3
                have hkb := ltK_total hl3 hl2
                have hq1 : (bk.toList == key.toList) = true := by rw [hkb]; exact beq_self_eq_true _
                clear hl3
                clear hS
                (try clear hl1)
                (try clear hl2)
                (try clear hkb)
                (try clear hii)
                go_quiet (fail)
                go_wp2_with fail
                go_ret3
                exact ⟨by rw [HRES.out]; rfl, by rw [HG3.out]; have hbel := LR8.out; have hsz_ := hbel.size; (first | assumption | (repeat (first | exact Below.refl _ _ | assumption | apply Below.drew | apply below_drewN | (refine Below.setCell ?_ (by (try simp) <;> omega) _) | (refine Below.alloc ?_ (by (try simp) <;> omega) _))))⟩
        · rw [decide_eq_false hii] at hS
          have e6 : (i2 - i1 == 1) = false := beq_eq_false_iff_ne.2 hii
          have HRES : Hid (checkF r key (N : Int) [⟨i1, (ak, av), aA, apath, ac⟩, ⟨i2, (bk, bv), bA, bpath, bc⟩] = (noB, false, false)) := Lib.hid (by rw [hS]; simp)
          clear hS
          (try clear hl1)
          (try clear hl2)
          (try clear hkb)
          (try clear hii)
          go_quiet (fail)
          go_wp2_with fail
          go_ret3
          exact ⟨by rw [HRES.out]; rfl, by rw [HG3.out]; have hbel := LR8.out; have hsz_ := hbel.size; (first | assumption | (repeat (first | exact Below.refl _ _ | assumption | apply Below.drew | apply below_drewN | (refine Below.setCell ?_ (by (try simp) <;> omega) _) | (refine Below.alloc ?_ (by (try simp) <;> omega) _))))⟩
      · exact absurd (by simp) hn2
end Go.Proofs.YtdeikpifflkabaaDoor

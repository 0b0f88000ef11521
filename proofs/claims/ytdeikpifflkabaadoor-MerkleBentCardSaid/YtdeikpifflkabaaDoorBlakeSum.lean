/- What this text proves: the contract of a digest's method Sum. The conditions are how the state lies in memory, and that the package's table is as its text lays it. -/
import Derived.Test.YtdeikpifflkabaaDoorBlakeWrite
import Derived.Lib.SliceRun
namespace Go.Proofs.YtdeikpifflkabaaDoor
open Go.RowKit
set_option linter.unusedVariables false
set_option linter.unusedSimpArgs false

/-- The state that is summed: the block filled up. -/
def padF (s : BSt) : BSt := { s with done := (s.done + s.n) % 18446744073709551616, b := s.b.take s.n ++ List.replicate (64 - s.n) 0 }
def outF (h : List Int) (i : Nat) : UInt8 := UInt8.ofNat (h.getD (i / 4) 0 / 2 ^ (i % 4 * 8) % 256).toNat
def sumF (s : BSt) : List UInt8 := (List.range 32).map (outF (compress (padF s).h (padF s).b (padF s).done true))
theorem sumF_len (s : BSt) : (sumF s).length = 32 := by simp [sumF]
theorem hi_state : (Tryd.prog.info? 100).map (·.size) = some 74 := by kernel_rfl
theorem hi_hash : (Tryd.prog.info? 26).map (·.size) = some 32 := by kernel_rfl
def hash0 : List UInt8 := List.replicate 32 0
theorem hash0_len : hash0.length = 32 := by decide
theorem zero_hash (w : World) : (zeroValue 26).run Tryd.prog w = .ok (.agg (bts hash0).toArray) w := by
  have h : (Tryd.prog.info? 26).map (·.zero) = some (some (.agg (bts hash0).toArray)) := by kernel_rfl
  cases hq : Tryd.prog.info? 26 with
  | none => rw [hq] at h; cases h
  | some i =>
    rw [hq] at h
    have h2 : i.zero = some (.agg (bts hash0).toArray) := by simpa using h
    simp [zeroValue, typeInfo, hq, h2, Sem.run_bind]
def BSt.zero : BSt := ⟨List.replicate 8 0, List.replicate 64 0, 0, 0⟩
theorem BSt.zero_ok : BSt.zero.ok := ⟨by decide, by decide, by decide, by decide, by decide⟩
theorem zero_state (w : World) : (zeroValue 100).run Tryd.prog w = .ok (.agg BSt.zero.cells.toArray) w := by
  have h : (Tryd.prog.info? 100).map (·.zero) = some (some (.agg BSt.zero.cells.toArray)) := by kernel_rfl
  cases hq : Tryd.prog.info? 100 with
  | none => rw [hq] at h; cases h
  | some i =>
    rw [hq] at h
    have h2 : i.zero = some (.agg BSt.zero.cells.toArray) := by simpa using h
    simp [zeroValue, typeInfo, hq, h2, Sem.run_bind]
theorem BSt.one_cells {s : BSt} : s.cells.toArray.all (·.oneCell') = true := by
  refine all_oneCell_toArray fun v hv => ?_
  simp only [BSt.cells, List.mem_cons, List.mem_append, List.not_mem_nil, or_false] at hv
  rcases hv with hv | hv | rfl | rfl
  · exact u32s_one v hv
  · exact bts_one v hv
  · rfl
  · rfl
/-- clear(b), b a slice of bytes. -/
theorem run_clear_zero {P : Program} (w : World) (t e ty : TypeId) (ht : P.underlying t = some (.slice e)) (z : Value) (hv : ∀ w, (zeroValue e).run P w = .ok z w) (p : Option Addr) (c : Nat) : (Builtin.clear_ #[t] ty #[.slice p 0 c]).run P w = .ok (.tuple #[]) w := by
  cases p <;> simp [Builtin.clear_, run_underlying ht, hv] <;> rfl
theorem wpList_clear {P : Program} {w : World} {ops : Array Oper} {rest : List Oper} {o : Oper} {a : Act} {Q : Exit → Act → World → Prop} (hgd : o.guard = none) (x : Operand) (t : TypeId)
    (ho : o.op = .call { callee := .builtin .clear, args := #[x], argTypes := #[t] }) {v : Value} (hx : a.eval x = v) {w' : World} (hr : (Builtin.clear_ #[t] o.type #[v]).run P w = .ok (.tuple #[]) w')
    (h : wpList P ops Q rest (a.put o.dst (.tuple #[])) w') : wpList P ops Q (o :: rest) a w := by
  refine wpList_plain hgd fun K hK => ?_
  unfold Oper.wp
  simp [execOp, ho, resolve, invoke, builtin, hx, hr, Result.andThen]
  exact hK _ _ h

theorem put_pad {s : BSt} (hs : s.ok) {n : Nat} (hn : n ≤ 64) : put s.cells (8 + n) (List.replicate (64 - n) (.int .u8 0)) = BSt.cells { s with b := s.b.take n ++ List.replicate (64 - n) 0 } := by
  have hz : List.replicate (64 - n) (Value.int .u8 0) = bts (List.replicate (64 - n) 0) := by simp [bts]
  have e : s.cells = (u32s s.h ++ bts (s.b.take n)) ++ (bts (s.b.drop n) ++ [.int .i64 (s.n : Int), .int .u64 s.done]) := by
    have hb : bts s.b = bts (s.b.take n) ++ bts (s.b.drop n) := by
      rw [← List.take_append_drop n s.b]
      simp [bts]
    rw [BSt.cells, hb]
    simp
  rw [hz, e, put_mid _ (bts (s.b.drop n)) (bts (List.replicate (64 - n) 0)) _ (8 + n) (by simp [u32s_len, bts_len, hs.h, hs.b]; omega) (by simp [bts_len, hs.b])]
  simp [BSt.cells, bts]

theorem u8_of (m : Int) (h0 : 0 ≤ m) (h1 : m < 256) : ((UInt8.ofNat m.toNat).toNat : Int) = m := by
  have : (UInt8.ofNat m.toNat).toNat = m.toNat := by simp; omega
  rw [this]
  omega
theorem Bk.set_u8 {w : World} {g : Nat} {t : TypeId} {l : List UInt8} (h : Bk w g t (bts l).toArray) (k : Nat) (c : UInt8) : Bk (w.setCell ⟨g, k, none⟩ (.int .u8 (c.toNat : Int))) g t (bts (l.set k c)).toArray := by
  have := h.set_ k (.int .u8 (c.toNat : Int))
  have e : (bts l).toArray.setIfInBounds k (.int .u8 (c.toNat : Int)) = (bts (l.set k c)).toArray := by
    apply Array.ext'
    rw [Array.toList_setIfInBounds]
    simp [bts, List.map_set]
  rwa [e] at this
theorem out_list {l : List UInt8} {f : Nat → UInt8} {n : Nat} (hl : l.length = n) (h : ∀ j, j < n → l[j]? = some (f j)) : l = (List.range n).map f := by
  apply List.ext_getElem?
  intro j
  by_cases hj : j < n
  · rw [h j hj, List.getElem?_map, List.getElem?_range hj]
    rfl
  · rw [List.getElem?_eq_none (by omega), List.getElem?_eq_none (by simp; omega)]

set_option maxRecDepth 100000 in
set_option maxHeartbeats 8000000 in
theorem sum_any (gs : Nat) (s : BSt) (w : World) (hs : s.ok) (hb : Bk w gs 100 s.cells.toArray) (hr : Roots w) (h0 : 0 < w.heap.size) :
    Calls Tryd.prog 45 #[.pointer (some ⟨gs, 0, none⟩)] w fun e w' => e = .returned (.agg (bts (sumF s)).toArray) ∧ Below w.heap.size w w' := by
  have hgl := hb.lt
  have hzh := zero_hash
  have hzs := zero_state
  have hsl := BSt.cells_len hs
  have hzl := BSt.cells_len BSt.zero_ok
  go_enter Tryd.func45, Tryd.ntmps45
  go_upto_region 3 with fail
  have S1 := hb.alloc (.cells (bts hash0).toArray 26)
  have R1 : Roots (w.alloc (.cells (bts hash0).toArray 26)) := World.rangeAt_alloc hr _
  have O1 := Bk.new w 26 (bts hash0).toArray
  have L1 : Below w.heap.size w (w.alloc (.cells (bts hash0).toArray 26)) := (by (first | assumption | (repeat (first | exact Below.refl _ _ | assumption | apply Below.drew | apply below_drewN | (refine Below.setCell ?_ (by (try simp) <;> omega) _) | (refine Below.alloc ?_ (by (try simp) <;> omega) _)))))
  have z1 : (w.alloc (.cells (bts hash0).toArray 26)).heap.size = w.heap.size + 1 := by simp
  obtain ⟨go, hgo⟩ : ∃ x, w.heap.size = x := ⟨_, rfl⟩
  obtain ⟨w1, hw1⟩ : ∃ x, w.alloc (.cells (bts hash0).toArray 26) = x := ⟨_, rfl⟩
  rw [hw1] at S1 R1 O1 L1 z1 ⊢
  rw [hgo] at O1 L1 z1 hgl h0 ⊢
  clear hw1 hb hr
  have rS := S1.all
  obtain ⟨gt, hgt⟩ : ∃ x, w1.heap.size = x := ⟨_, rfl⟩
  have T1 := Bk.new w1 100 BSt.zero.cells.toArray
  rw [hgt] at T1 z1
  have HT1 := Lib.hid T1
  have R2 := Lib.hid (show Roots (w1.alloc (.cells BSt.zero.cells.toArray 100)) from World.rangeAt_alloc R1 _)
  have O2 := Lib.hid (O1.alloc (.cells BSt.zero.cells.toArray 100))
  have L2 := Lib.hid (L1.alloc (by omega) (.cells BSt.zero.cells.toArray 100))
  have hgog : go < gt := by omega
  clear T1 S1 R1 O1 L1 z1
  go_upto_region 4 with (first
    | (refine wpList_val (by rfl) (run_load_seg 100 _ (by with_reducible rfl) gs 0 (by rfl) _ rS 74 hsl _ Tryd.underlying100 (by rfl) hi_state) ?_)
    | (refine wpList_puts (by rfl) 100 _ _ (by with_reducible rfl) gt 0 (by rfl) s.cells (by rfl) 100 BSt.zero.cells (by exact HT1.out) 74 hsl (by rw [hzl]; omega) hi_state BSt.one_cells ?_; intro w3 hb_ hm_ hz_; rw [put_all (by rw [hzl, hsl])] at hb_; have HM3 := Lib.hid hm_; have HT3 := Lib.hid hb_; clear hb_ hm_ hz_))
  have R3 : Hid (Roots w3) := Lib.hid (rangeAt_moves R2.out HM3.out (fun _ => by omega))
  have O3 := Lib.hid (HM3.out.bk O2.out (by omega))
  have L3 : Hid (Below go w w3) := Lib.hid (L2.out.trans (HM3.out.to_below (by simp; omega) (fun k _ e => by omega)))
  clear HM3 HT1 R2 O2 L2 rS hzs hzl
  obtain ⟨_, _, c72, c73⟩ := bst_out HT3.out hs
  have fz := HT3.out.frozen 73
  have d0 := hs.d0
  have d1 := hs.d1
  have hn := hs.n
  obtain ⟨D, hD⟩ : ∃ D, IntKind.u64.wrap (s.done + (s.n : Int)) = D := ⟨_, rfl⟩
  have hDm : (s.done + (s.n : Int)) % 18446744073709551616 = D := hD
  have hDb : 0 ≤ D ∧ D < 18446744073709551616 := by omega
  have HDm := Lib.hid hDm
  have t4 : BSt.ok { s with done := D } := ⟨hs.h, hs.b, hs.n, hDb.1, hDb.2⟩
  have HT4 := Lib.hid (bst_set_done HT3.out hs D)
  have hm4 : Moves (fun k _ => k = gt) w3 (w3.setCell ⟨gt, 73, none⟩ (.int .u64 D)) := Moves.setCell _ _ _ (fun _ _ => rfl)
  have R4 : Hid (Roots (w3.setCell ⟨gt, 73, none⟩ (.int .u64 D))) := Lib.hid (rangeAt_moves R3.out hm4 (fun _ => by omega))
  have O4 := Lib.hid (hm4.bk O3.out (by omega))
  have L4 : Hid (Below go w (w3.setCell ⟨gt, 73, none⟩ (.int .u64 D))) := Lib.hid (L3.out.setCell (by simp only; omega) _)
  clear hDm hDb hm4
  go_upto_region 5 with fail
  try rw [hD]
  obtain ⟨w4, hw4⟩ : ∃ x, w3.setCell ⟨gt, 73, none⟩ (.int .u64 D) = x := ⟨_, rfl⟩
  rw [hw4] at HT4 R4 O4 L4 ⊢
  clear hw4 hD c72 c73 fz R3 O3 L3 HT3 d0 d1
  have c72 : w4.cell? ⟨gt, 72, none⟩ = some (.int .i64 (s.n : Int)) := (bst_out HT4.out t4).2.2.1
  have hzu : ∀ w : World, (zeroValue 5).run Tryd.prog w = .ok (.int .u8 0) w := fun w => by kernel_rfl
  have key : ∃ x : Nat, x = 0 := ⟨_, rfl⟩
  by_cases h64 : s.n = 64
  case' pos =>
    have HN := Lib.hid h64
    rw [h64] at c72
    clear h64 hn
    go_upto_region 6 with (refine wpList_clear rfl _ _ (by with_reducible rfl) (v := .slice (some ⟨gt, 8, none⟩) 0 0) (by rfl) (run_clear_zero _ _ _ _ Tryd.underlying59 _ hzu _ _) ?_)
    obtain ⟨w5, hw5⟩ : ∃ x, w4 = x := ⟨_, rfl⟩
    have HP : Hid (padF s = { s with done := D }) := Lib.hid (by simp only [padF]; rw [HDm.out, HN.out, List.take_of_length_le (by rw [hs.b]; exact Nat.le_refl _)]; simp)
    rw [hw5] at HT4 R4 O4 L4 ⊢
    have HT5 : Hid (Bk w5 gt 100 (padF s).cells.toArray) := Lib.hid (by rw [HP.out]; exact HT4.out)
    have hpok : (padF s).ok := by rw [HP.out]; exact t4
    clear hw5 c72 HN
  case' neg =>
    have hn64 : s.n < 64 := by omega
    have q1 : (s.n : Int) ≤ 64 := by omega
    have q2 : ¬ (64 = s.n) := by omega
    have q3 : (0 : Int) ≤ (s.n : Int) := by omega
    have hc' := (bst_out HT4.out t4).2.1
    have hc1 : ∀ j, j < 64 - s.n → (w4.cell? ⟨gt, 8 + s.n + j, none⟩).isSome = true := fun j hj => by
      have := hc' (s.n + j) _ (List.getElem?_eq_getElem (by rw [bts_len]; have := hs.b; simp only; omega))
      rw [Nat.add_assoc, this]
      rfl
    have HC1 := Lib.hid hc1
    clear hc1 hc'
    go_upto_region 6 with (refine wpList_clear rfl _ _ (by with_reducible rfl) (v := .slice (some ⟨gt, 8 + s.n, none⟩) (64 - s.n) (64 - s.n)) (by rfl) (Lib.run_clear_slice w4 _ _ _ (.int .u8 0) Tryd.underlying59 hzu rfl rfl gt (8 + s.n) (64 - s.n) _ (by omega) HC1.out (fun j _ => HT4.out.frozen _)) ?_)
    have hpn : BSt.ok { s with done := D } := t4
    have T5 := HT4.out.puts (List.replicate (64 - s.n) (.int .u8 0)) _ (8 + s.n) w4 (by rw [BSt.cells_len t4]; simp; omega)
    rw [put_pad (s := { s with done := D }) t4 hn] at T5
    have hm5 := Moves.puts (X := fun k _ => k = gt) (g := gt) (fun _ => rfl) (List.replicate (64 - s.n) (.int .u8 0)) (8 + s.n) w4
    have HP : Hid (padF s = { s with done := D, b := s.b.take s.n ++ List.replicate (64 - s.n) 0 }) := Lib.hid (by simp only [padF]; rw [HDm.out])
    have hpok : (padF s).ok := by rw [HP.out]; exact ⟨hs.h, by simp [hs.b]; omega, hs.n, t4.d0, t4.d1⟩
    have R5 : Hid (Roots (w4.setCells gt (8 + s.n) (List.replicate (64 - s.n) (.int .u8 0)))) := Lib.hid (rangeAt_moves R4.out hm5 (fun _ => by omega))
    have O5 := Lib.hid (hm5.bk O4.out (by omega))
    have L5 : Hid (Below go w (w4.setCells gt (8 + s.n) (List.replicate (64 - s.n) (.int .u8 0)))) := Lib.hid (L4.out.trans (hm5.to_below (Nat.le_trans (Nat.le_of_eq hgo.symm) L4.out.size) (fun k _ e => by omega)))
    obtain ⟨w5, hw5⟩ : ∃ x, w4.setCells gt (8 + s.n) (List.replicate (64 - s.n) (.int .u8 0)) = x := ⟨_, rfl⟩
    rw [hw5] at T5 R5 O5 L5 ⊢
    have HT5 : Hid (Bk w5 gt 100 (padF s).cells.toArray) := Lib.hid (by rw [HP.out]; exact T5)
    clear hw5 T5 hm5 R4 O4 L4 hpn HC1 h64 hn64 q1 q2 q3 c72 HT4
    have HT4 : True := trivial
    have R4 := R5
    have O4 := O5
    have L4 := L5
    clear R5 O5 L5
  all_goals
    clear key HT4 t4 HDm HP hzu
    try clear hn
    go_wp2_with fail
    with_reducible refine (block_any gt (padF s) true w5 hpok HT5.out R4.out (by omega)).mono ?_
    rintro e w6 ⟨rfl, hb6, hm6⟩
    obtain ⟨Hh, hHh⟩ : ∃ x, compress (padF s).h (padF s).b (padF s).done true = x := ⟨_, rfl⟩
    have hHl : Hh.length = 8 := by rw [← hHh, compress_len]; exact hpok.h
    have HHh : Hid (sumF s = (List.range 32).map (outF Hh)) := Lib.hid (by rw [sumF, hHh])
    rw [hHh] at hb6
    have HT6 : Hid (Bk w6 gt 100 (BSt.cells { padF s with h := Hh }).toArray) := Lib.hid hb6
    have O6 := Lib.hid (hm6.bk O4.out (by omega))
    have L6 : Hid (Below go w w6) := Lib.hid (L4.out.trans (hm6.to_below (Nat.le_trans (Nat.le_of_eq hgo.symm) L4.out.size) (fun k _ e => by omega)))
    clear hb6 hm6 hHh R4 O4 L4 HT5
    have hokH : BSt.ok { padF s with h := Hh } := ⟨hHl, hpok.b, hpok.n, hpok.d0, hpok.d1⟩
    obtain ⟨gh, hgh⟩ : ∃ x, w6.heap.size = x := ⟨_, rfl⟩
    have hl6 := HT6.out.lt
    have ho6 := O6.out.lt
    have hgo6 : go ≤ w6.heap.size := Nat.le_trans (Nat.le_of_eq hgo.symm) L6.out.size
    have F0 := Bk.new w6 26 (bts hash0).toArray
    rw [hgh] at F0 hl6 ho6 hgo6
    have HF0 := Lib.hid F0
    have HT7 := Lib.hid (HT6.out.alloc (.cells (bts hash0).toArray 26))
    have O7 := Lib.hid (O6.out.alloc (.cells (bts hash0).toArray 26))
    have L7 : Hid (Below go w (w6.alloc (.cells (bts hash0).toArray 26))) := Lib.hid (L6.out.alloc (by omega) _)
    clear F0 HT6 O6 L6
    go_wp2_with fail
    obtain ⟨w7, hw7⟩ : ∃ x, w6.alloc (.cells (bts hash0).toArray 26) = x := ⟨_, rfl⟩
    rw [hw7] at HF0 HT7 O7 L7 ⊢
    clear hw7 hgh hzh
    go_loopw [24] (fun i wr => ∃ (k : Nat) (l : List UInt8), k ≤ 32 ∧ i = .int .i64 k ∧ l.length = 32 ∧ (∀ j, j < k → l[j]? = some (outF Hh j)) ∧ Bk wr gh 26 (bts l).toArray ∧ Bk wr gt 100 (BSt.cells { padF s with h := Hh }).toArray ∧ Bk wr go 26 (bts hash0).toArray ∧ Below go w wr) (fun i _ => 32 - (intOf i).toNat)
    case atStart => exact ⟨0, hash0, by omega, rfl, hash0_len, fun j hj => by omega, HF0.out, HT7.out, O7.out, L7.out⟩
    case round =>
      obtain ⟨k, l, hk, rfl, hll, hpre, hbh, hbt, hbo, hbel⟩ := hrel
      have HPRE := Lib.hid hpre
      have HBh := Lib.hid hbh
      have HBt := Lib.hid hbt
      have HBo := Lib.hid hbo
      have HBEL := Lib.hid hbel
      clear hpre hbh hbt hbo hbel HF0 HT7 O7 L7
      by_cases hlt : k < 32
      · have hlt' : (k : Int) < 32 := by omega
        have hq8 : k / 4 < 8 := by omega
        have hx := bst_h HBt.out (i := k / 4) (by simp only; omega)
        have cb : ∃ v, wr.cell? ⟨gh, k, none⟩ = some v := ⟨_, by rw [HBh.out.cell, List.getElem?_toArray]; exact List.getElem?_eq_getElem (by rw [bts_len, hll]; exact hlt)⟩
        obtain ⟨vb, hvb⟩ := cb
        have fz := HBh.out.frozen k
        obtain ⟨x, hxx⟩ : ∃ x, Hh.getD (k / 4) 0 = x := ⟨_, rfl⟩
        (try simp only at hx)
        rw [hxx] at hx
        obtain ⟨q, hq⟩ : ∃ q, k / 4 = q := ⟨_, rfl⟩
        obtain ⟨r, hr⟩ : ∃ r, k % 4 = r := ⟨_, rfl⟩
        rw [hq] at hx hq8
        have hr4 : r < 4 := by omega
        have hlq : (q : Int) < 8 := by omega
        have hqi : (k : Int) / 4 = (q : Int) := by omega
        have hri : (k : Int) % 4 = (r : Int) := by omega
        have HOUT : Hid (outF Hh k = UInt8.ofNat (x / 2 ^ (r * 8) % 256).toNat) := Lib.hid (by rw [outF, hxx, hr])
        clear hxx hq hr
        go_wp2_with fail
        go_roundw
        case rel =>
          have hm : Moves (fun g _ => g = gh) wr (wr.setCell ⟨gh, k, none⟩ (.int .u8 (x / 2 ^ (r * 8) % 256))) := Moves.setCell _ _ _ (fun _ _ => rfl)
          have hu := u8_of (x / 2 ^ (r * 8) % 256) (Int.emod_nonneg _ (by decide)) (Int.emod_lt_of_pos _ (by decide))
          refine ⟨k + 1, l.set k (outF Hh k), by omega, by go_num, by simp [hll], fun j hj => ?_, ?_, hm.bk HBt.out (by omega), hm.bk HBo.out (by omega), HBEL.out.setCell (by simp only; omega) _⟩
          · by_cases e : j = k
            · subst e
              rw [List.getElem?_set_self (by omega)]
            · rw [List.getElem?_set_ne (by omega)]
              exact HPRE.out j (by omega)
          · have := HBh.out.set_u8 k (outF Hh k)
            rw [HOUT.out, hu] at this
            rw [HOUT.out]
            exact this
        case measure => simp [intOf]; omega
      · obtain rfl : k = 32 := by omega
        have hfin : l = sumF s := by rw [HHh.out]; exact out_list hll HPRE.out
        subst hfin
        have hbl : (bts (sumF s)).length = 32 := by rw [bts_len, sumF_len]
        have h0l : (bts hash0).length = 32 := by rw [bts_len, hash0_len]
        have rO := HBh.out.all
        clear hlt
        go_wp2_with (first
          | (refine wpList_val (by rfl) (run_load_seg 26 _ (by with_reducible rfl) gh 0 (by rfl) _ rO 32 hbl _ Tryd.underlying26 (by rfl) hi_hash) ?_)
          | (refine wpList_puts (by rfl) 26 _ _ (by with_reducible rfl) go 0 (by rfl) (bts (sumF s)) (by rfl) 26 (bts hash0) (by exact HBo.out) 32 hbl (by rw [h0l]; omega) hi_hash bts_all ?_; intro w9 hb_ hm_ hz_; rw [put_all (by rw [h0l, hbl])] at hb_; have HM9 := Lib.hid hm_; have HR9 := Lib.hid hb_; clear hb_ hm_ hz_))
        refine bodyPost_ret (results_cell_row rfl _ _ go 26 (bts (sumF s)).toArray (0, 0) _ (by rfl) HR9.out Tryd.underlying26 rfl (by rw [hi_hash]; simp [hbl])) rfl ?_
        exact ⟨rfl, HBEL.out.trans (HM9.out.to_below (Nat.le_trans (Nat.le_of_eq hgo.symm) HBEL.out.size) (fun k _ e => by omega))⟩
end Go.Proofs.YtdeikpifflkabaaDoor

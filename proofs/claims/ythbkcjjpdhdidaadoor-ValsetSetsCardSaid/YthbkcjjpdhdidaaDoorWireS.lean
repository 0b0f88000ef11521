/- What this text proves: the contracts of the wire writer: NewWriter, put, Number, Word, Hash, Text, Bytes. The conditions are how the writer lies in memory, and that it is not too long. -/
import Derived.Test.YthbkcjjpdhdidaaDoorWireWrS
namespace Go.Proofs.YthbkcjjpdhdidaaDoor
open Go.RowKit Go.Shelf
set_option linter.unusedVariables false
set_option linter.unusedSimpArgs false

/-- The s lowest bytes of n, the highest first. -/
def beB (n s : Nat) : List UInt8 := (List.range s).map fun i => UInt8.ofNat (n / 2 ^ (8 * (s - 1 - i)) % 256)
theorem beB_len (n s : Nat) : (beB n s).length = s := by simp [beB]
theorem beB_at (n s : Nat) {i : Nat} (hi : i < s) : (beB n s)[i]? = some (UInt8.ofNat (n / 2 ^ (8 * (s - 1 - i)) % 256)) := by simp [beB, hi]
theorem u8_nat (n : Nat) : (UInt8.ofNat (n % 256)).toNat = n % 256 := by rw [UInt8.toNat_ofNat']; omega

def Rw (bad : Bool) : Nat → Option Value := fun j => if j = 3 then some (.bool bad) else none
/-- Block b holds a writer of the bytes l. -/
def Wr (w : World) (B b : Nat) (bad : Bool) (l : List UInt8) : Prop := ∃ v, Bf w B b (Rw bad) v (bts l)
/-- What a call of a writer leaves. -/
def WP (w : World) (B b : Nat) (bad : Bool) (l : List UInt8) (w' : World) : Prop := Wr w' B b bad l ∧ Below B w w' ∧ KB b w w'
theorem WrP.wp {w w' : World} {B b : Nat} {bad : Bool} {l : List UInt8} {bs : List Value} (h : WrP w B b (Rw bad) bs w') (e : bs = bts l) : WP w B b bad l w' := by
  subst e
  obtain ⟨v', h1, h2, h3⟩ := h
  exact ⟨⟨v', h1⟩, h2, h3⟩
theorem Bf.ge {w : World} {B b : Nat} {R : Nat → Option Value} {v : Value} {bs : List Value} (h : Bf w B b R v bs) : B ≤ b ∧ b < w.heap.size := by
  obtain ⟨hB, lr, h3, _⟩ := h
  exact ⟨hB, h3.lt⟩
theorem Wr.ge {w : World} {B b : Nat} {bad : Bool} {l : List UInt8} (h : Wr w B b bad l) : B ≤ b ∧ b < w.heap.size := by
  obtain ⟨v, h⟩ := h
  exact h.ge
theorem Bf.carry {w w' : World} {B b : Nat} {R : Nat → Option Value} {v : Value} {bs : List Value} (h : Bf w B b R v bs) (hb : ∀ k, k < w.heap.size → w'.heap[k]? = w.heap[k]?) : Bf w' B b R v bs := by
  have hlt := h.ge.2
  obtain ⟨hB, lr, h3, ho, hn, h0⟩ := h
  refine ⟨hB, lr, h3.of_heap (hb b hlt), ⟨ho.1, ?_⟩, hn, h0⟩
  rcases ho.2 with hn | ⟨g, cap, cur, hv, hbg, hg, rest⟩
  · exact .inl hn
  · exact .inr ⟨g, cap, cur, hv, hbg, (hb g (Lib.lt_of_heap hg)).trans hg, rest⟩
theorem Wr.old {w w' : World} {B b : Nat} {bad : Bool} {l : List UInt8} (h : Wr w B b bad l) (hb : Below w.heap.size w w') : Wr w' B b bad l := by
  obtain ⟨v, h⟩ := h
  exact ⟨v, h.carry fun k hk => hb.block k hk⟩
theorem KB.old {b : Nat} {w w' : World} (hlt : b < w.heap.size) (hb : Below w.heap.size w w') : KB b w w' := fun k o v h1 h2 h3 h4 =>
  ⟨(hb.block k (Array.getElem?_eq_some_iff.1 h1).1).trans h1, v, (hb.cell (p := ⟨b, 0, none⟩) hlt).trans h3, h4⟩

set_option maxHeartbeats 2000000 in
theorem newWriter_any (B : Nat) (w : World) (hB : B ≤ w.heap.size) :
    Calls Tryd.prog 30 #[] w fun e w' => e = .returned (.pointer (some ⟨w.heap.size, 0, none⟩)) ∧ Wr w' B w.heap.size false [] ∧ Below w.heap.size w w' := by
  go_enter Tryd.func30, Tryd.ntmps30
  go_wp2_with fail
  go_ret
  refine ⟨rfl, ⟨.slice none 0 0, hB, 0, ⟨_, Bk.new w _ _, rfl, rfl, rfl, fun i hi => ?_⟩, World.ownsRow_nil _ _ _ _, by simp [Value.ownBlock], fun _ => rfl⟩, (by (first | assumption | (repeat (first | exact Below.refl _ _ | assumption | apply Below.drew | apply below_drewN | (refine Below.setCell ?_ (by (try simp) <;> omega) _) | (refine Below.alloc ?_ (by (try simp) <;> omega) _)))))⟩
  have hi3 : 3 ≤ i := by omega
  unfold Rw
  by_cases h : i = 3
  · subst h; rfl
  · rw [if_neg h]
    exact Array.getElem?_eq_none (by simp; omega)

set_option maxRecDepth 100000 in
set_option maxHeartbeats 4000000 in
theorem put_any (R : Nat → Option Value) (B b : Nat) (v : Value) (bs : List Value) (n s : Nat) (ni si : Int) (hni : ni = n) (hsi : si = s) (w : World) (h : Bf w B b R v bs) (hBw : B ≤ w.heap.size) (h1 : ∀ v ∈ bs, v.oneCell' = true) (hs : s ≤ 8) (hn : n < 18446744073709551616) (hlim : bs.length + 8 ≤ 140737488355328) :
    Calls Tryd.prog 43 #[.pointer (some ⟨b, 0, none⟩), .int .u64 ni, .int .i64 si] w fun e w' => e = .returned (.tuple #[]) ∧ WrP w B b R (bs ++ bts (beB n s)) w' := by
  subst hni hsi
  have HI := Lib.hid h
  have H1 := Lib.hid h1
  have HLIM := Lib.hid hlim
  clear h h1 hlim
  go_enter Tryd.func43, Tryd.ntmps43
  go_wp2_with fail
  go_loopw [6] (fun i wr => ∃ (k : Nat), k ≤ s ∧ i = .int .i64 ((s : Int) - 1 - k) ∧ WrP w B b R (bs ++ bts ((beB n s).take k)) wr) (fun i _ => (intOf i + 1).toNat)
  case atStart => exact ⟨0, by omega, by go_num, by simpa [bts] using ⟨v, HI.out, Below.refl _ _, KB.refl _ _⟩⟩
  case round =>
    obtain ⟨k, hk, rfl, v1, hv1, hb1, hk1⟩ := hrel
    have H := Lib.hid hv1
    have HB := Lib.hid hb1
    have HK := Lib.hid hk1
    clear hv1 hb1 hk1 HI
    by_cases hlt : k < s
    · obtain ⟨j, hj⟩ : ∃ j, s - 1 - k = j := ⟨_, rfl⟩
      have hji : (s : Int) - 1 - (k : Int) = (j : Int) := by omega
      have hj7 : j ≤ 7 := by omega
      obtain ⟨m, hm⟩ : ∃ m, 8 * j = m := ⟨_, rfl⟩
      have hmi : 8 * (j : Int) = (m : Int) := by omega
      have hm56 : (m : Int) ≤ 56 := by omega
      have HV : Hid (((UInt8.ofNat (n / 2 ^ m % 256)).toNat : Int) = (n : Int) / 2 ^ m % 256) := Lib.hid (by rw [u8_nat]; push_cast; rfl)
      have HT : Hid ((beB n s).take (k + 1) = (beB n s).take k ++ [UInt8.ofNat (n / 2 ^ m % 256)]) := Lib.hid (by rw [take_at (beB_at n s hlt), hj, hm])
      have HW := Lib.hid (writeByte_any R B b v1 _ ((n : Int) / 2 ^ m % 256) wr.drew H.out (Nat.le_trans hBw HB.out.size) (by
        intro u hu
        rcases List.mem_append.1 hu with h | h
        · exact H1.out u h
        · exact bts_one u h) (by rw [List.length_append, bts_len, List.length_take, beB_len]; have := HLIM.out; omega))
      rw [hji]
      clear hm hj
      have hj0 : (0 : Int) ≤ j := by omega
      have mixed : Tryd.prog.follows .mixedOrders = true := by kernel_rfl
      have hwm : IntKind.i64.wrap (m : Int) = m := by rw [IntKind.wrap_i64]; omega
      have hwb : IntKind.u8.wrap ((n : Int) / 2 ^ m) = (n : Int) / 2 ^ m % 256 := by rw [IntKind.wrap_u8]
      go_upto_region 3 with fail
      go_region_with_o (
        go_at_call 47
        with_reducible refine HW.out.mono ?_
        rintro e w2 ⟨rfl, v2, h2, hb2, hk2⟩)
      have H2 := Lib.hid h2
      have HB2 := Lib.hid (Below.trans (show Below B w wr.drew from HB.out.drew) hb2)
      have HK2 := Lib.hid (KB.trans (show KB b w wr.drew from HK.out) hk2)
      clear h2 hb2 hk2 HW
      go_wp2_with fail
      go_roundw
      case rel =>
        refine ⟨k + 1, by omega, by go_num, v2, ?_, HB2.out, HK2.out⟩
        have := H2.out
        rw [HT.out, bts_app, ← List.append_assoc]
        have e : bts [UInt8.ofNat (n / 2 ^ m % 256)] = [.int .u8 ((n : Int) / 2 ^ m % 256)] := by
          simp only [bts, List.map_cons, List.map_nil]; rw [HV.out]
        rw [e]
        exact this
      case measure => simp [intOf]; try omega
    · obtain rfl : k = s := by omega
      have e0 : decide (0 ≤ (k : Int) - 1 - (k : Int)) = false := by simp; omega
      go_wp2_with fail
      first | go_end0 | skip
      refine ⟨rfl, v1, ?_, HB.out, HK.out⟩
      have := H.out
      rw [List.take_of_length_le (by rw [beB_len]; exact Nat.le_refl _)] at this
      exact this

theorem Wr.word {w : World} {B b : Nat} {bad : Bool} {l : List UInt8} (h : Wr w B b bad l) (n s : Nat) (ni si : Int) (hni : ni = n) (hsi : si = s) (hBw : B ≤ w.heap.size) (hs : s ≤ 8) (hn : n < 18446744073709551616) (hlim : l.length ≤ 100000000) :
    Calls Tryd.prog 43 #[.pointer (some ⟨b, 0, none⟩), .int .u64 ni, .int .i64 si] w fun e w' => e = .returned (.tuple #[]) ∧ WP w B b bad (l ++ beB n s) w' := by
  obtain ⟨v, h⟩ := h
  refine (put_any _ B b v _ n s ni si hni hsi w h hBw bts_one hs hn (by rw [bts_len]; omega)).mono ?_
  rintro e w' ⟨he, hw⟩
  exact ⟨he, hw.wp (bts_app _ _).symm⟩

set_option maxHeartbeats 2000000 in
theorem wword_any (B b : Nat) (bad : Bool) (l : List UInt8) (n : Nat) (ni : Int) (hni : ni = n) (w : World) (h : Wr w B b bad l) (hBw : B ≤ w.heap.size) (hn : n < 18446744073709551616) (hlim : l.length ≤ 100000000) :
    Calls Tryd.prog 35 #[.pointer (some ⟨b, 0, none⟩), .int .u64 ni] w fun e w' => e = .returned (.tuple #[]) ∧ WP w B b bad (l ++ beB n 8) w' := by
  subst hni
  have HW := Lib.hid (h.word n 8 n 8 rfl rfl hBw (by decide) hn hlim)
  clear h hlim
  go_enter Tryd.func35, Tryd.ntmps35
  go_wp2_with fail
  with_reducible refine HW.out.mono ?_
  rintro e w' ⟨rfl, hw⟩
  go_wp2_with fail
  first | go_end0 | go_ret
  exact ⟨rfl, hw⟩

theorem wword_nil (ni : Int) (w : World) : Calls Tryd.prog 35 #[.pointer none, .int .u64 ni] w fun e w' => e = .returned (.tuple #[]) ∧ w' = w := by
  go_enter Tryd.func35, Tryd.ntmps35
  go_wp2_with fail
  first | go_end0 | go_ret
  exact ⟨rfl, rfl⟩

set_option maxHeartbeats 2000000 in
theorem wnumber_any (B b : Nat) (bad : Bool) (l : List UInt8) (n : Int) (w : World) (h : Wr w B b bad l) (hBw : B ≤ w.heap.size) (hlim : l.length ≤ 100000000) :
    Calls Tryd.prog 33 #[.pointer (some ⟨b, 0, none⟩), .int .i64 n] w fun e w' => e = .returned (.tuple #[]) ∧ WP w B b bad (l ++ beB (n % 18446744073709551616).toNat 8) w' := by
  have HW := Lib.hid (wword_any B b bad l (n % 18446744073709551616).toNat (IntKind.u64.wrap n) (by rw [IntKind.wrap_u64]; omega) w h hBw (by omega) hlim)
  clear h hlim
  go_enter Tryd.func33, Tryd.ntmps33
  go_wp2_with fail
  with_reducible refine HW.out.mono ?_
  rintro e w' ⟨rfl, hw⟩
  go_wp2_with fail
  first | go_end0 | go_ret
  exact ⟨rfl, hw⟩

theorem wnumber_nil (n : Int) (w : World) : Calls Tryd.prog 33 #[.pointer none, .int .i64 n] w fun e w' => e = .returned (.tuple #[]) ∧ w' = w := by
  have HW := Lib.hid (wword_nil (IntKind.u64.wrap n) w)
  go_enter Tryd.func33, Tryd.ntmps33
  go_wp2_with fail
  with_reducible refine HW.out.mono ?_
  rintro e w' ⟨rfl, rfl⟩
  go_wp2_with fail
  first | go_end0 | go_ret
  exact ⟨rfl, rfl⟩

theorem wbytes_nil (w : World) : Calls Tryd.prog 31 #[.pointer none] w fun e w' => e = .returned (.tuple #[.slice none 0 0, .int .i64 1]) ∧ w' = w := by
  go_enter Tryd.func31, Tryd.ntmps31
  go_wp2_with fail
  first | go_end0 | go_ret | go_ret2
  exact ⟨rfl, rfl⟩

theorem Bf.setBad {w : World} {B b : Nat} {bad : Bool} {v : Value} {bs : List Value} (h : Bf w B b (Rw bad) v bs) : Bf (w.setCell ⟨b, 3, none⟩ (.bool true)) B b (Rw true) v bs := by
  obtain ⟨hB, lr, ⟨cs, hbk, h0, h1, h2, hr⟩, ho, hn, hz⟩ := h
  have hlt : 3 < cs.size := (Array.getElem?_eq_some_iff.1 ((hr 3 (by omega)).trans (show Rw bad 3 = some (.bool bad) from rfl))).1
  refine ⟨hB, lr, ⟨_, Lib.heap_setCell_same (i := 3) hbk _, by rw [Array.getElem?_setIfInBounds_ne (by omega)]; exact h0, by rw [Array.getElem?_setIfInBounds_ne (by omega)]; exact h1, by rw [Array.getElem?_setIfInBounds_ne (by omega)]; exact h2, fun j hj => ?_⟩, ho.kept (Lib.grownBy_setCell w b 3 _) (Or.inr hn), hn, hz⟩
  by_cases hji : j = 3
  · subst hji; simp [hlt, Rw]
  · rw [Array.getElem?_setIfInBounds_ne (fun e1 => hji e1.symm), hr j hj]
    simp [Rw, hji]
theorem Bf.bad {w : World} {B b : Nat} {bad : Bool} {v : Value} {bs : List Value} (h : Bf w B b (Rw bad) v bs) : w.cell? ⟨b, 3, none⟩ = some (.bool bad) ∧ w.frozen? ⟨b, 3, none⟩ = false := by
  obtain ⟨hB, lr, h3, _⟩ := h
  exact ⟨h3.rest 3 (by omega), h3.f 3⟩

def beB2 (n : Nat) : List UInt8 := beB n 2
set_option maxHeartbeats 2000000 in
theorem wbytes_bad (B b : Nat) (l : List UInt8) (w : World) (h : Wr w B b true l) :
    Calls Tryd.prog 31 #[.pointer (some ⟨b, 0, none⟩)] w fun e w' => e = .returned (.tuple #[.slice none 0 0, .int .i64 21]) ∧ Below w.heap.size w w' := by
  obtain ⟨v, h⟩ := h
  obtain ⟨c3, f3⟩ := h.bad
  clear h
  go_enter Tryd.func31, Tryd.ntmps31
  go_wp2_with fail
  first | go_end0 | go_ret | go_ret2
  exact ⟨rfl, (by (first | assumption | (repeat (first | exact Below.refl _ _ | assumption | apply Below.drew | apply below_drewN | (refine Below.setCell ?_ (by (try simp) <;> omega) _) | (refine Below.alloc ?_ (by (try simp) <;> omega) _)))))⟩

set_option maxHeartbeats 2000000 in
theorem bufBytes_any (R : Nat → Option Value) (B b : Nat) (v : Value) (bs : List Value) (w : World) (h : Bf w B b R v bs) (hlim : bs.length ≤ 100000000) :
    Calls Tryd.prog 42 #[.pointer (some ⟨b, 0, none⟩)] w fun e w' => e = .returned v ∧ ∃ n, w' = w.drewN n := by
  have mixed : Tryd.prog.follows .mixedOrders = true := by kernel_rfl
  obtain ⟨hB, lr, ⟨hb, hv, h3⟩ | ⟨hb, g, cap, cur, hv, h3, hBg, hg, hnc, hcm, hcs, htk, hgb⟩⟩ := h.cases
  · subst hv
    have c0 : w.cell? ⟨b, 0, none⟩ = some (.slice none 0 0) := h3.c0
    have c1 : w.cell? ⟨b, 1, none⟩ = some (.int .i64 0) := h3.c1
    clear h h3
    go_enter Tryd.func42, Tryd.ntmps42
    go_wp2_with fail
    try (go_region; all_goals go_wp2_with fail)
    all_goals
      go_ret
      exact ⟨rfl, 1, rfl⟩
  · subst hv
    obtain ⟨n, hn⟩ : ∃ n, bs.length = n := ⟨_, rfl⟩
    rw [hn] at h3 hnc ⊢
    unfold maxLen at hcm
    have c0 : w.cell? ⟨b, 0, none⟩ = some (.slice (some ⟨g, 0, none⟩) n cap) := h3.c0
    have c1 : w.cell? ⟨b, 1, none⟩ = some (.int .i64 0) := h3.c1
    clear h h3
    go_enter Tryd.func42, Tryd.ntmps42
    go_wp2_with fail
    try (go_region; all_goals go_wp2_with fail)
    all_goals
      go_ret
      exact ⟨rfl, 1, rfl⟩

/-- A slice of bytes of the call's own. -/
def Own8 (w : World) (B : Nat) (v : Value) (l : List UInt8) : Prop := w.ownsRow B 5 1 v l.length (bts l)
theorem own8_nil (w : World) (B : Nat) : Own8 w B (.slice none 0 0) [] := World.ownsRow_nil _ _ _ _
set_option maxHeartbeats 2000000 in
theorem wbytes_any (B b : Nat) (l : List UInt8) (w : World) (h : Wr w B b false l) (hlim : l.length ≤ 100000000) :
    Calls Tryd.prog 31 #[.pointer (some ⟨b, 0, none⟩)] w fun e w' => ∃ v, e = .returned (.tuple #[v, .int .i64 0]) ∧ Own8 w' w.heap.size v l ∧ Below w.heap.size w w' := by
  obtain ⟨v, h⟩ := h
  obtain ⟨c3, f3⟩ := h.bad
  have HBB := Lib.hid (bufBytes_any _ B b v _ w h (by rw [bts_len]; exact hlim))
  have HC : Hid (∀ n, Calls Tryd.prog 41 #[v] (w.drewN n) fun e w' => ∃ v', e = .returned v' ∧ Own8 w' w.heap.size v' l ∧ Below w.heap.size w w') := Lib.hid (by
    intro n
    obtain ⟨hB, lr, ⟨hb, hv, h3⟩ | ⟨hb, g, cap, cur, hv, h3, hBg, hg, hnc, hcm, hcs, htk, hgb⟩⟩ := h.cases
    · have hl : l = [] := by
        have := congrArg List.length hb
        rw [bts_len] at this
        exact List.eq_nil_of_length_eq_zero (by simpa using this)
      subst hl hv
      refine (Tryd.bytes_Clone_nil 0 0 _).mono ?_
      rintro e w' ⟨rfl, rfl⟩
      exact ⟨_, rfl, own8_nil _ _, ⟨rfl, rfl, rfl, Nat.le_refl _, fun _ _ => rfl⟩⟩
    · subst hv
      rw [bts_len]
      refine (Tryd.bytes_Clone_at ⟨g, 0, none⟩ l.length cap (l.map fun x => (x.toNat : Int)) _ (by simp) (by omega) ?_).mono ?_
      · intro i hi
        have : Addr.add ⟨g, 0, none⟩ i = ⟨g, i, none⟩ := by unfold Addr.add; split <;> simp_all
        rw [this]
        show w.cell? ⟨g, i, none⟩ = _
        rw [Lib.cell_of_heap hg]
        have h1 : (bts l)[i]? = some (.int .u8 ((l.map fun x => (x.toNat : Int)).getD i 0)) := by
          simp [bts, List.getD_eq_getElem?_getD, hi]
        rw [← htk, List.getElem?_take] at h1
        split at h1
        · simpa using h1
        · cases h1
      · rintro e w' ⟨v', rfl, ho, _, hb⟩
        refine ⟨v', rfl, ?_, ?_⟩
        · unfold Own8
          have : (l.map fun x => (x.toNat : Int)).map (Value.int .u8) = bts l := by simp [bts, Function.comp_def]
          rw [this] at ho
          exact ho
        · exact Below.trans (show Below w.heap.size w (w.drewN n) from ⟨rfl, rfl, rfl, Nat.le_refl _, fun _ _ => rfl⟩) hb)
  clear h
  go_enter Tryd.func31, Tryd.ntmps31
  go_wp2_with fail
  with_reducible refine HBB.out.mono ?_
  rintro e w1 ⟨rfl, n, rfl⟩
  go_wp2_with fail
  with_reducible refine (HC.out n).mono ?_
  rintro e w2 ⟨v2, rfl, ho, hb⟩
  go_wp2_with fail
  first | go_ret | go_ret2
  exact ⟨v2, rfl, ho, hb⟩
end Go.Proofs.YthbkcjjpdhdidaaDoor

/- What this text proves: how a wire.Reader lies in memory, and the contracts of its must, take and word. The conditions are how it lies. -/
import Derived.Test.YtclnpglnomfjkaaDoorWireAlive
import Derived.WalkSmall
namespace Go.Proofs.YtclnpglnomfjkaaDoor
open Go.RowKit Go.Shelf
set_option linter.unusedVariables false
set_option linter.unusedSimpArgs false

/-- The bytes lie in a block of bytes. -/
def Tagged (w : World) (A : Option Addr) (n : Nat) : Prop := ∀ b off, A = some ⟨b, off, none⟩ → 0 < n → ∃ cur, w.heap[b]? = some (.cells cur 5 (0, 0))
/-- Block g holds a reader of the bytes l. -/
def Rs (w : World) (g : Nat) (l : List UInt8) (brk : Bool) : Prop :=
  ∃ A c, Bk w g 74 #[.slice A l.length c, .bool brk] ∧ l.length ≤ c ∧ c ≤ maxLen ∧ Sl w w.heap.size 1 A l.length (bts l) ∧ (A = none → c = 0) ∧ Tagged w A l.length
/-- What is thrown where bytes are missing. -/
def missed : List PanicEntry := [{ v := .iface 87 (.agg #[]), recovered := false }]

theorem Rs.lt {w : World} {g : Nat} {l : List UInt8} {brk : Bool} (h : Rs w g l brk) : g < w.heap.size := by
  obtain ⟨A, c, h, _⟩ := h
  exact h.lt
theorem Tagged.ne {w : World} {A : Option Addr} {n k : Nat} (h : Tagged w A n) (hk : ∀ cur, w.heap[k]? ≠ some (.cells cur 5 (0, 0))) : ∀ b off, A = some ⟨b, off, none⟩ → 0 < n → b ≠ k := by
  rintro b off e hn rfl
  obtain ⟨cur, hc⟩ := h b off e hn
  exact hk cur hc
theorem Bk.no8 {w : World} {k : Nat} {t : TypeId} {cs : Array Value} (h : Bk w k t cs) (ht : t ≠ 5) : ∀ cur, w.heap[k]? ≠ some (.cells cur 5 (0, 0)) := by
  intro cur hc
  unfold Bk at h
  rw [h] at hc
  simp only [Option.some.injEq, Obj.cells.injEq] at hc
  exact ht hc.2.1
theorem Rs.off {w : World} {g : Nat} {l : List UInt8} {brk : Bool} {A : Option Addr} {c : Nat} (h : Bk w g 74 #[.slice A l.length c, .bool brk]) (ht : Tagged w A l.length) : ∀ b off, A = some ⟨b, off, none⟩ → 0 < l.length → b ≠ g := ht.ne (h.no8 (by decide))
/-- Any step that leaves all blocks but one as they are. -/
theorem Sl.grown {w w' : World} {B : Nat} {A : Option Addr} {cs : List Value} {n : Nat} {row : Option Nat} (h : Sl w B 1 A n cs) (hB : B ≤ w.heap.size) (hg : w.grownBy w' row) (hne : ∀ b off, A = some ⟨b, off, none⟩ → 0 < n → some b ≠ row) : Sl w' B 1 A n cs := by
  refine ⟨h.1, fun hn => ?_⟩
  obtain ⟨b, off, e, hb, hc⟩ := h.2 hn
  refine ⟨b, off, e, hb, fun j u hu => ?_⟩
  rw [World.cell?_of_block (a := ⟨b, off + j, none⟩) (w := w) (w' := w') (hg.block b (by omega) (hne b off e hn))]
  exact hc j u hu
theorem Tagged.grown {w w' : World} {A : Option Addr} {n : Nat} {row : Option Nat} (h : Tagged w A n) (hg : w.grownBy w' row) (hne : ∀ b off, A = some ⟨b, off, none⟩ → 0 < n → some b ≠ row) : Tagged w' A n := by
  intro b off e hn
  obtain ⟨cur, hc⟩ := h b off e hn
  exact ⟨cur, (hg.block b (Lib.lt_of_heap hc) (hne b off e hn)).trans hc⟩
theorem Rs.set {w : World} {g : Nat} {l l' : List UInt8} {brk brk' : Bool} {A A' : Option Addr} {c c' : Nat} (h : Bk w g 74 #[.slice A l.length c, .bool brk]) (hs' : Sl w w.heap.size 1 A' l'.length (bts l')) (ht' : Tagged w A' l'.length) (hlc : l'.length ≤ c') (hcm : c' ≤ maxLen) (hz : A' = none → c' = 0) (i : Nat) (u : Value) (he : #[.slice A l.length c, .bool brk].setIfInBounds i u = #[.slice A' l'.length c', .bool brk']) :
    Rs (w.setCell ⟨g, i, none⟩ u) g l' brk' := by
  have hx := ht'.ne (h.no8 (by decide))
  refine ⟨A', c', ?_, hlc, hcm, ?_, hz, ht'.grown (Lib.grownBy_setCell w g i u) (fun b off e hn e2 => hx b off e hn (Option.some.inj e2))⟩
  · have := h.set_ i u
    rw [he] at this
    exact this
  · have := hs'.grown (Nat.le_refl _) (Lib.grownBy_setCell w g i u) (fun b off e hn e2 => hx b off e hn (Option.some.inj e2))
    rw [show (w.setCell ⟨g, i, none⟩ u).heap.size = w.heap.size by simp [World.setCell]]
    exact this
theorem Rs.old {w w' : World} {g : Nat} {l : List UInt8} {brk : Bool} (h : Rs w g l brk) (hb : Below w.heap.size w w') : Rs w' g l brk := by
  obtain ⟨A, c, h1, h2, h3, h4, h5, h6⟩ := h
  exact ⟨A, c, h1.below hb h1.lt, h2, h3, (h4.below hb).more hb.size, h5, fun b off e hn => by
    obtain ⟨cur, hc⟩ := h6 b off e hn
    exact ⟨cur, (hb.block b (Lib.lt_of_heap hc)).trans hc⟩⟩
/-- Another block, not one of bytes, is written. -/
theorem Rs.move {w w' : World} {g k : Nat} {l : List UInt8} {brk : Bool} (h : Rs w g l brk) (hg : w.grownBy w' (some k)) (hk : k ≠ g) (ht : ∀ cur, w.heap[k]? ≠ some (.cells cur 5 (0, 0))) : Rs w' g l brk := by
  obtain ⟨A, c, h1, h2, h3, h4, h5, h6⟩ := h
  have hx := h6.ne ht
  exact ⟨A, c, h1.grown hg (fun e => hk (Option.some.inj e).symm), h2, h3, (h4.grown (Nat.le_refl _) hg (fun b off e hn e2 => hx b off e hn (Option.some.inj e2))).more hg.size, h5, h6.grown hg (fun b off e hn e2 => hx b off e hn (Option.some.inj e2))⟩

theorem must_true (p : Option Addr) (w : World) : Calls Tryd.prog 47 #[.pointer p, .bool true] w fun e w' => e = .returned (.tuple #[]) ∧ w' = w := by
  go_enter Tryd.func47, Tryd.ntmps47
  go_wp2_with fail
  first | go_end0 | go_ret
  exact ⟨rfl, rfl⟩
theorem must_false (p : Option Addr) (w : World) : Calls Tryd.prog 47 #[.pointer p, .bool false] w fun e w' => e = .panicked missed ∧ w' = w := by
  go_enter Tryd.func47, Tryd.ntmps47
  go_wp2_with fail
  exact ⟨rfl, rfl, rfl⟩

set_option maxHeartbeats 2000000 in
theorem take_ok (g : Nat) (l : List UInt8) (n : Nat) (ni : Int) (hni : ni = n) (w : World) (h : Rs w g l false) (hn : n ≤ l.length) :
    Calls Tryd.prog 44 #[.pointer (some ⟨g, 0, none⟩), .int .i64 ni] w fun e w' => ∃ A c, e = .returned (.slice A n c) ∧ n ≤ c ∧ c ≤ maxLen ∧ Sl w' w'.heap.size 1 A n (bts (l.take n)) ∧ Rs w' g (l.drop n) false ∧ w.grownBy w' (some g) := by
  subst hni
  obtain ⟨A, c, hb, hlc, hcm, hs, hz, htg⟩ := h
  have HX := Lib.hid (Rs.off hb htg)
  have HTG := Lib.hid htg
  have HT := Lib.hid (hs.take hn)
  have HD := Lib.hid (hs.drop hn hlc)
  rw [Nat.mul_one, bts_take] at HT
  rw [Nat.mul_one, bts_drop] at HD
  obtain ⟨m, hm⟩ : ∃ m, l.length = m := ⟨_, rfl⟩
  have HS := Lib.hid hs
  have HB := Lib.hid hb
  have HM := Lib.hid hm
  rw [hm] at hb hn hlc HD
  have c0 : w.cell? ⟨g, 0, none⟩ = some (.slice A m c) := hb.cell 0
  have c1 : w.cell? ⟨g, 1, none⟩ = some (.bool false) := hb.cell 1
  have f0 := hb.frozen 0
  have e1 : (n : Int) ≤ (m : Int) := by omega
  have HC := Lib.hid hcm
  unfold maxLen at hcm
  have hsz : ∀ u, (w.setCell ⟨g, 0, none⟩ u).heap.size = w.heap.size := fun u => by simp [World.setCell]
  have hdl : (l.drop n).length = m - n := by rw [List.length_drop, hm]
  have keep : ∀ (A2 : Option Addr) (k : Nat) (cs : List Value) (u : Value), Sl w w.heap.size 1 A2 k cs → (∀ b off, A2 = some ⟨b, off, none⟩ → 0 < k → b ≠ g) → Sl (w.setCell ⟨g, 0, none⟩ u) (w.setCell ⟨g, 0, none⟩ u).heap.size 1 A2 k cs := fun A2 k cs u h h2 => by
    rw [hsz]
    exact h.grown (Nat.le_refl _) (Lib.grownBy_setCell w g 0 u) (fun b off e hk e2 => h2 b off e hk (Option.some.inj e2))
  have KEEP := Lib.hid keep
  have HDL := Lib.hid hdl
  have offT : ∀ b off, A = some ⟨b, off, none⟩ → 0 < n → b ≠ g := fun b off e hk => HX.out b off e (by omega)
  have HOFT := Lib.hid offT
  clear hb hs hm keep hsz hdl offT htg
  cases A with
  | none =>
    obtain rfl := hz rfl
    obtain rfl : m = 0 := by omega
    obtain rfl : n = 0 := by omega
    go_enter Tryd.func44, Tryd.ntmps44
    go_wp2_with fail
    with_reducible refine (must_true _ w).mono ?_
    rintro e w1 ⟨rfl, rfl⟩
    go_wp2_with fail
    go_ret
    refine ⟨none, 0, rfl, Nat.le_refl _, HC.out, Sl.nil _ _ _ _, ?_, Lib.grownBy_setCell _ _ _ _⟩
    exact Rs.set HB.out (A' := none) (c' := 0) (l' := l.drop 0) (by rw [List.drop_zero]; exact HS.out) (fun b off e => by cases e) (by rw [List.drop_zero, HM.out]; exact Nat.le_refl _) HC.out (fun _ => rfl) 0 _ (by rw [List.drop_zero, HM.out]; rfl)
  | some a =>
    go_enter Tryd.func44, Tryd.ntmps44
    go_wp2_with fail
    with_reducible refine (must_true _ w).mono ?_
    rintro e w1 ⟨rfl, rfl⟩
    go_wp2_with fail
    · have hcn : c = n := h
      subst hcn
      go_ret
      refine ⟨some a, c, rfl, by omega, HC.out, KEEP.out _ _ _ _ HT.out HOFT.out, ?_, Lib.grownBy_setCell _ _ _ _⟩
      have hd := HD.out
      rw [if_pos rfl] at hd
      refine Rs.set HB.out (A' := some a) (c' := 0) (l' := l.drop c) (by rw [HDL.out]; exact hd) (fun b off e hk => HTG.out b off e (by rw [HDL.out] at hk; omega)) (by rw [HDL.out]; omega) (by unfold maxLen; omega) (fun e => by cases e) 0 _ (by rw [HDL.out]; rfl)
    · have hcn : ¬ c = n := h
      go_ret
      refine ⟨some a, c, rfl, by omega, HC.out, KEEP.out _ _ _ _ HT.out HOFT.out, ?_, Lib.grownBy_setCell _ _ _ _⟩
      have hd := HD.out
      rw [if_neg hcn] at hd
      refine Rs.set HB.out (A' := some (a.add n)) (c' := c - n) (l' := l.drop n) (by rw [HDL.out]; exact hd) (fun b off e hk => ?_) (by rw [HDL.out]; omega) (by unfold maxLen; omega) (fun e => by cases e) 0 _ (by rw [HDL.out]; rfl)
      rw [HDL.out] at hk
      have hab : a.block = b := by have := congrArg Addr.block (Option.some.inj e); rw [Lib.block_add] at this; exact this
      obtain ⟨b', off', e', _, _⟩ := HS.out.at_ (by rw [HM.out]; omega)
      cases e'
      obtain ⟨cur, hcur⟩ := HTG.out b' off' rfl (by rw [HM.out]; omega)
      have hab' : b' = b := hab
      exact ⟨cur, hab' ▸ hcur⟩

set_option maxHeartbeats 2000000 in
theorem take_bad (g : Nat) (l : List UInt8) (n : Nat) (ni : Int) (hni : ni = n) (w : World) (h : Rs w g l false) (hn : l.length < n) (hn2 : n < 9223372036854775807) :
    Calls Tryd.prog 44 #[.pointer (some ⟨g, 0, none⟩), .int .i64 ni] w fun e w' => e = .panicked missed ∧ w' = w := by
  subst hni
  obtain ⟨A, c, hb, hlc, hcm, hs, hz, _⟩ := h
  obtain ⟨m, hm⟩ : ∃ m, l.length = m := ⟨_, rfl⟩
  rw [hm] at hb hn
  have c0 : w.cell? ⟨g, 0, none⟩ = some (.slice A m c) := hb.cell 0
  have e1 : decide (n ≤ m) = false := by simp; omega
  clear hb hs hm hz hlc hcm
  go_enter Tryd.func44, Tryd.ntmps44
  go_wp2_with fail
  with_reducible refine (must_false _ w).mono ?_
  rintro e w1 ⟨rfl, rfl⟩
  go_wp2_with fail
  exact ⟨rfl, rfl, rfl⟩

/-- The number that bytes are, the highest first. -/
def beN (l : List UInt8) : Nat := l.foldl (fun n c => n * 256 + c.toNat) 0
theorem beN_snoc (l : List UInt8) (c : UInt8) : beN (l ++ [c]) = beN l * 256 + c.toNat := by simp [beN, List.foldl_append]
theorem beN_lt (l : List UInt8) : ∀ k, k ≤ l.length → beN (l.take k) < 256 ^ k := by
  intro k
  induction k with
  | zero => intro _; simp [beN]
  | succ k ih =>
    intro hk
    obtain ⟨c, hc⟩ : ∃ c, l[k]? = some c := ⟨_, List.getElem?_eq_getElem (by omega)⟩
    rw [take_at hc, beN_snoc, Nat.pow_succ]
    have := c.toNat_lt
    have := ih (by omega)
    omega
theorem ofInt64_nat (x : Nat) : BitVec.ofInt 64 (x : Int) = BitVec.ofNat 64 x := by simp
theorem or_byte (N c : Nat) (hN : N < 72057594037927936) (hc : c < 256) : bits .or .u64 ((N * 256 : Nat) : Int) (c : Int) = ((N * 256 + c : Nat) : Int) := by
  have h1 : N * 256 < 18446744073709551616 := by omega
  have hor : N * 256 ||| c = N * 256 + c := by
    have := Nat.two_pow_add_eq_or_of_lt (i := 8) hc N
    rw [show (2 : Nat) ^ 8 = 256 from rfl, Nat.mul_comm] at this
    exact this.symm
  have e : bits .or .u64 ((N * 256 : Nat) : Int) (c : Int) = IntKind.u64.wrap (((BitVec.ofInt 64 ((N * 256 : Nat) : Int)) ||| (BitVec.ofInt 64 (c : Int))).toNat : Int) := by rfl
  rw [e, ofInt64_nat, ofInt64_nat, BitVec.toNat_or, BitVec.toNat_ofNat, BitVec.toNat_ofNat, Nat.mod_eq_of_lt h1, Nat.mod_eq_of_lt (by omega), hor]
  have : IntKind.u64.wrap ((N * 256 + c : Nat) : Int) = ((N * 256 + c : Nat) : Int) % 18446744073709551616 := by rfl
  rw [this]
  omega

set_option maxRecDepth 100000 in
set_option maxHeartbeats 2000000 in
theorem word_ok (g : Nat) (l : List UInt8) (s : Nat) (si : Int) (hsi : si = s) (w : World) (h : Rs w g l false) (hs : s ≤ l.length) (h8 : s ≤ 8) :
    Calls Tryd.prog 40 #[.pointer (some ⟨g, 0, none⟩), .int .i64 si] w fun e w' => e = .returned (.int .u64 (beN (l.take s) : Nat)) ∧ Rs w' g (l.drop s) false ∧ w.grownBy w' (some g) := by
  subst hsi
  have HT := Lib.hid (take_ok g l s s rfl w h hs)
  have HL : Hid ((l.take s).length = s) := Lib.hid (by rw [List.length_take]; omega)
  obtain ⟨xs, hxs⟩ : ∃ xs, l.take s = xs := ⟨_, rfl⟩
  rw [hxs] at HT HL ⊢
  clear h hxs hs
  go_enter Tryd.func40, Tryd.ntmps40
  go_wp2_with fail
  with_reducible refine HT.out.mono ?_
  rintro e w1 ⟨A, c, rfl, hsc, hcm, hsl, hR, hg⟩
  have HR := Lib.hid hR
  have HG := Lib.hid hg
  have HS := Lib.hid hsl
  unfold maxLen at hcm
  clear hR hg hsl HT
  go_wp2_with fail
  go_loopw [5, 12] (fun n i wr => ∃ (k : Nat), k ≤ s ∧ i = .int .i64 k ∧ n = .int .u64 (beN (xs.take k) : Nat) ∧ wr = w1) (fun _ i _ => s - (intOf i).toNat)
  case atStart => exact ⟨0, by omega, rfl, rfl, rfl⟩
  case round =>
    obtain ⟨k, hk, rfl, rfl, rfl⟩ := hrel
    have hb := beN_lt xs k (by rw [HL.out]; omega)
    by_cases hlt : k < s
    · have hlt' : (k : Int) < (s : Int) := by omega
      obtain ⟨c', hc⟩ : ∃ c', xs[k]? = some c' := ⟨_, List.getElem?_eq_getElem (by rw [HL.out]; omega)⟩
      obtain ⟨ba, oa, u, rfl, hba, hcell, hu⟩ := HS.out.one hlt
      rw [bts_at hc] at hu
      obtain rfl := Option.some.inj hu
      have hN : beN (xs.take k) < 72057594037927936 := Nat.lt_of_lt_of_le hb (by
        have : (256 : Nat) ^ k ≤ 256 ^ 7 := Nat.pow_le_pow_right (by decide) (by omega)
        exact this)
      have hcb := c'.toNat_lt
      have HQ := Lib.hid (show beN (xs.take (k + 1)) = beN (xs.take k) * 256 + c'.toNat by rw [take_at hc, beN_snoc])
      obtain ⟨N, hNe⟩ : ∃ N, beN (xs.take k) = N := ⟨_, rfl⟩
      obtain ⟨x, hx⟩ : ∃ x, c'.toNat = x := ⟨_, rfl⟩
      rw [hNe] at hN HQ ⊢
      rw [hx] at hcell hcb HQ
      have ho := or_byte N x hN hcb
      obtain ⟨y, hy⟩ : ∃ y : Int, (N : Int) * 256 = y := ⟨_, rfl⟩
      have ho' : bits .or .u64 y (x : Int) = ((N * 256 + x : Nat) : Int) := by rw [← hy, ← ho]; congr 1
      have hyw : IntKind.u64.wrap y = y := by
        have : IntKind.u64.wrap y = y % 18446744073709551616 := by rfl
        omega
      have hyb : 0 ≤ y ∧ y < 18446744073709551616 := by omega
      have hy1 := hyb.1
      have hy2 := hyb.2
      clear hNe hx hc hb ho hyb hu
      go_wp2_with fail
      go_roundw
      case rel => exact ⟨k + 1, by omega, by go_num, by rw [HQ.out]; congr 1; omega, trivial⟩
      case measure => simp [intOf]; omega
    · obtain rfl : k = s := by omega
      have HTK : Hid (xs.take k = xs) := Lib.hid (List.take_of_length_le (by rw [HL.out]; exact Nat.le_refl _))
      rw [HTK.out]
      go_wp2_with fail
      go_ret
      exact ⟨rfl, HR.out, HG.out⟩
set_option maxRecDepth 100000 in
set_option maxHeartbeats 2000000 in
theorem word_bad (g : Nat) (l : List UInt8) (s : Nat) (si : Int) (hsi : si = s) (w : World) (h : Rs w g l false) (hs : l.length < s) (h8 : s ≤ 8) :
    Calls Tryd.prog 40 #[.pointer (some ⟨g, 0, none⟩), .int .i64 si] w fun e w' => e = .panicked missed ∧ w' = w := by
  subst hsi
  have HT := Lib.hid (take_bad g l s s rfl w h hs (by omega))
  clear h hs
  go_enter Tryd.func40, Tryd.ntmps40
  go_wp2_with fail
  with_reducible refine HT.out.mono ?_
  rintro e w1 ⟨rfl, rfl⟩
  go_wp2_with fail
  exact ⟨rfl, rfl, rfl⟩
end Go.Proofs.YtclnpglnomfjkaaDoor

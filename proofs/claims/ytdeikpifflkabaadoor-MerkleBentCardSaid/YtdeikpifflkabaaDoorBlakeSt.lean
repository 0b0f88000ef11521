/- What this text proves: plain functions of a digest under way, and how its state lies in memory. No condition. -/
import Derived.Test.YtdeikpifflkabaaDoorBlakeG
namespace Go.Proofs.YtdeikpifflkabaaDoor
open Go.RowKit
set_option linter.unusedVariables false
set_option linter.unusedSimpArgs false

/-- A word of a block behind its i-th byte. -/
def mstep (M : List Int) (i : Nat) (c : Int) : List Int := M.set (i / 4) (bits .or .u32 (M.getD (i / 4) 0) (IntKind.u32.wrap (c * 2 ^ (i % 4 * 8))))
def mload : List UInt8 → Nat → List Int → List Int
  | [], _, M => M
  | c :: cs, i, M => mload cs (i + 1) (mstep M i c.toNat)
def mzero : List Int := List.replicate 16 0
def rootsL : List Int := [0x6a09e667, 0xbb67ae85, 0x3c6ef372, 0xa54ff53a, 0x510e527f, 0x9b05688c, 0x1f83d9ab, 0x5be0cd19]
def colsF (V M : List Int) (r : Nat) : Nat → List Int
  | 0 => V
  | k + 1 => gF (colsF V M r k) M k (4 + k) (8 + k) (12 + k) (16 * r + 2 * k)
def diagF (V M : List Int) (r : Nat) : Nat → List Int
  | 0 => V
  | k + 1 => gF (diagF V M r k) M k (4 + (k + 1) % 4) (8 + (k + 2) % 4) (12 + (k + 3) % 4) (16 * r + 8 + 2 * k)
def roundsF (V M : List Int) : Nat → List Int
  | 0 => V
  | r + 1 => diagF (colsF (roundsF V M r) M r 4) M r 4
def houtF (h V : List Int) : Nat → List Int
  | 0 => h
  | k + 1 => (houtF h V k).set k (bits .xor .u32 ((houtF h V k).getD k 0) (bits .xor .u32 (V.getD k 0) (V.getD (k + 8) 0)))
/-- The words at the beginning of a block. -/
def vinit (h : List Int) (done : Int) (last : Bool) : List Int :=
  let V := h ++ rootsL
  let V := V.set 12 (bits .xor .u32 (V.getD 12 0) (done % 4294967296))
  let V := V.set 13 (bits .xor .u32 (V.getD 13 0) (done / 4294967296))
  if last then V.set 14 (bits .xor .u32 4294967295 (V.getD 14 0)) else V
/-- H behind a block. -/
def compress (h : List Int) (b : List UInt8) (done : Int) (last : Bool) : List Int := houtF h (roundsF (vinit h done last) (mload b 0 mzero) 10) 8

theorem mstep_len {M : List Int} {i : Nat} {c : Int} : (mstep M i c).length = M.length := by simp [mstep]
theorem mload_len : ∀ (b : List UInt8) (i : Nat) (M : List Int), (mload b i M).length = M.length
  | [], _, _ => rfl
  | c :: cs, i, M => by rw [mload, mload_len cs, mstep_len]
theorem colsF_len {V M : List Int} {r : Nat} : ∀ k, (colsF V M r k).length = V.length
  | 0 => rfl
  | k + 1 => by rw [colsF, gF_len, colsF_len k]
theorem diagF_len {V M : List Int} {r : Nat} : ∀ k, (diagF V M r k).length = V.length
  | 0 => rfl
  | k + 1 => by rw [diagF, gF_len, diagF_len k]
theorem roundsF_len {V M : List Int} : ∀ r, (roundsF V M r).length = V.length
  | 0 => rfl
  | r + 1 => by rw [roundsF, diagF_len, colsF_len, roundsF_len r]
theorem houtF_len {h V : List Int} : ∀ k, (houtF h V k).length = h.length
  | 0 => rfl
  | k + 1 => by rw [houtF, List.length_set, houtF_len k]
theorem vinit_len {h : List Int} {done : Int} {last : Bool} (hh : h.length = 8) : (vinit h done last).length = 16 := by
  unfold vinit
  cases last <;> simp [hh, rootsL]
theorem compress_len {h : List Int} {b : List UInt8} {done : Int} {last : Bool} : (compress h b done last).length = h.length := houtF_len 8

/-- A digest under way. -/
structure BSt where
  h : List Int
  b : List UInt8
  n : Nat
  done : Int
structure BSt.ok (s : BSt) : Prop where
  h : s.h.length = 8
  b : s.b.length = 64
  n : s.n ≤ 64
  d0 : 0 ≤ s.done
  d1 : s.done < 18446744073709551616
def BSt.cells (s : BSt) : List Value := u32s s.h ++ (bts s.b ++ [.int .i64 (s.n : Int), .int .u64 s.done])
theorem u32s_len (l : List Int) : (u32s l).length = l.length := by simp [u32s]
theorem BSt.cells_len {s : BSt} (h : s.ok) : s.cells.length = 74 := by simp [BSt.cells, u32s_len, bts_len, h.h, h.b]
theorem bst_h {w : World} {g : Nat} {t : TypeId} {s : BSt} (hb : Bk w g t s.cells.toArray) {i : Nat} (hi : i < s.h.length) : w.cell? ⟨g, i, none⟩ = some (.int .u32 (s.h.getD i 0)) := by
  rw [hb.cell, List.getElem?_toArray, BSt.cells, List.getElem?_append_left (by rw [u32s_len]; exact hi), u32s_get rfl hi]
theorem bst_out {w : World} {g : Nat} {t : TypeId} {s : BSt} (hb : Bk w g t s.cells.toArray) (hs : s.ok) :
    w.rangeAt g 0 (u32s s.h) ∧ w.rangeAt g 8 (bts s.b) ∧ w.cell? ⟨g, 72, none⟩ = some (.int .i64 (s.n : Int)) ∧ w.cell? ⟨g, 73, none⟩ = some (.int .u64 s.done) :=
  ⟨hb.seg 0 [] _ _ rfl rfl, hb.seg 8 (u32s s.h) _ _ rfl (by rw [u32s_len, hs.h]), hb.at_ 72 (u32s s.h ++ bts s.b) [.int .u64 s.done] _ (by simp [BSt.cells]) (by simp [u32s_len, bts_len, hs.h, hs.b]),
    hb.at_ 73 (u32s s.h ++ (bts s.b ++ [.int .i64 (s.n : Int)])) [] _ (by simp [BSt.cells]) (by simp [u32s_len, bts_len, hs.h, hs.b])⟩
theorem bst_set_h {w : World} {g : Nat} {t : TypeId} {s : BSt} (hb : Bk w g t s.cells.toArray) {i : Nat} (hi : i < s.h.length) (x : Int) : Bk (w.setCell ⟨g, i, none⟩ (.int .u32 x)) g t (BSt.cells { s with h := s.h.set i x }).toArray := by
  have := hb.set_ i (.int .u32 x)
  have e : s.cells.toArray.setIfInBounds i (.int .u32 x) = (BSt.cells { s with h := s.h.set i x }).toArray := by
    apply Array.ext'
    rw [Array.toList_setIfInBounds]
    simp only [List.toList_toArray, BSt.cells]
    rw [List.set_append, if_pos (by rw [u32s_len]; exact hi)]
    simp [u32s, List.map_set]
  rwa [e] at this
theorem bst_set_n {w : World} {g : Nat} {t : TypeId} {s : BSt} (hb : Bk w g t s.cells.toArray) (hs : s.ok) (x : Nat) : Bk (w.setCell ⟨g, 72, none⟩ (.int .i64 (x : Int))) g t (BSt.cells { s with n := x }).toArray := by
  have := hb.list_set 72 (u32s s.h ++ bts s.b) [.int .u64 s.done] (.int .i64 (s.n : Int)) (.int .i64 (x : Int)) (by simp [BSt.cells]) (by simp [u32s_len, bts_len, hs.h, hs.b])
  simpa [BSt.cells] using this
theorem bst_set_done {w : World} {g : Nat} {t : TypeId} {s : BSt} (hb : Bk w g t s.cells.toArray) (hs : s.ok) (x : Int) : Bk (w.setCell ⟨g, 73, none⟩ (.int .u64 x)) g t (BSt.cells { s with done := x }).toArray := by
  have := hb.list_set 73 (u32s s.h ++ (bts s.b ++ [.int .i64 (s.n : Int)])) [] (.int .u64 s.done) (.int .u64 x) (by simp [BSt.cells]) (by simp [u32s_len, bts_len, hs.h, hs.b])
  simpa [BSt.cells] using this
theorem bts_set (b : List UInt8) (i : Nat) (c : UInt8) : (bts b).set i (.int .u8 (c.toNat : Int)) = bts (b.set i c) := by
  simp [bts, List.map_set]
theorem bst_set_b {w : World} {g : Nat} {t : TypeId} {s : BSt} (hb : Bk w g t s.cells.toArray) (hs : s.ok) {i : Nat} (hi : i < 64) (c : UInt8) : Bk (w.setCell ⟨g, 8 + i, none⟩ (.int .u8 (c.toNat : Int))) g t (BSt.cells { s with b := s.b.set i c }).toArray := by
  have := hb.set_ (8 + i) (.int .u8 (c.toNat : Int))
  have e : s.cells.toArray.setIfInBounds (8 + i) (.int .u8 (c.toNat : Int)) = (BSt.cells { s with b := s.b.set i c }).toArray := by
    apply Array.ext'
    rw [Array.toList_setIfInBounds]
    simp only [List.toList_toArray, BSt.cells]
    rw [List.set_append, if_neg (by rw [u32s_len, hs.h]; omega), u32s_len, hs.h, Nat.add_sub_cancel_left, List.set_append, if_pos (by rw [bts_len, hs.b]; exact hi), bts_set]
  rwa [e] at this
/-- The package's table of the beginning. -/
def Roots (w : World) : Prop := w.rangeAt 0 0 (u32s rootsL)
end Go.Proofs.YtdeikpifflkabaaDoor

/- What this text proves: plain laws of layer 2: fields as bytes, and what is read of them. No condition. -/
import Derived.Test.YtclnpglnomfjkaaDoorWireBroken
namespace Go.Proofs.YtclnpglnomfjkaaDoor
open Go.RowKit Go.Shelf
set_option linter.unusedVariables false
set_option linter.unusedSimpArgs false

theorem beB_succ (n s : Nat) : beB n (s + 1) = beB (n / 256) s ++ [UInt8.ofNat (n % 256)] := by
  unfold beB
  rw [List.range_succ, List.map_append]
  congr 1
  · apply List.map_congr_left
    intro i hi
    have hi' : i < s := by simpa using hi
    congr 2
    rw [Nat.div_div_eq_div_mul]
    congr 1
    rw [show 8 * (s + 1 - 1 - i) = 8 + 8 * (s - 1 - i) by omega, Nat.pow_add]
  · simp
theorem beN_beB (s : Nat) : ∀ n, n < 256 ^ s → beN (beB n s) = n := by
  induction s with
  | zero => intro n h; have : n = 0 := by simpa using h
            subst this; rfl
  | succ s ih =>
    intro n h
    rw [beB_succ, beN_snoc, ih (n / 256) (by rw [Nat.pow_succ] at h; omega), u8_nat]
    omega
theorem wordR_enc (n : Nat) (hn : n < 18446744073709551616) (t : List UInt8) : wordR (beB n 8 ++ t) = some (.int .u64 (n : Nat), t) := by
  have h8 := beB_len n 8
  unfold wordR
  rw [if_pos (by rw [List.length_append, h8]; omega), List.take_left' h8, List.drop_left' h8, beN_beB 8 n hn]
theorem hashR_enc (h : List UInt8) (hh : h.length = 32) (t : List UInt8) : hashR (h ++ t) = some (.agg (bts h).toArray, t) := by
  unfold hashR
  rw [if_pos (by rw [List.length_append, hh]; omega), List.take_left' hh, List.drop_left' hh]
theorem strOf_data (s : ByteArray) : strOf s.data.toList = s := by
  cases s; rfl
theorem textR_enc (s : ByteArray) (hs : s.size ≤ 4096) (t : List UInt8) : textR ((beB s.size 2 ++ s.data.toList) ++ t) = some (.string s, t) := by
  have h2 := beB_len s.size 2
  have hsl : s.data.toList.length = s.size := rfl
  have hN : beN (beB s.size 2) = s.size := beN_beB 2 s.size (by omega)
  have ht : ((beB s.size 2 ++ s.data.toList) ++ t).take 2 = beB s.size 2 := by rw [List.append_assoc, List.take_left' h2]
  have hd : ((beB s.size 2 ++ s.data.toList) ++ t).drop 2 = s.data.toList ++ t := by rw [List.append_assoc, List.drop_left' h2]
  unfold textR
  rw [ht, hd, hN, if_pos ⟨by simp only [List.length_append, h2]; omega, hs, by rw [List.length_append, hsl]; omega⟩, List.take_left' hsl, List.drop_left' hsl, strOf_data]
/-- A field's bytes. -/
def encF (f : Fd) : List UInt8 :=
  if f.kind = 1 then beB (f.n % 18446744073709551616).toNat 8 else if f.kind = 2 then beB f.wd.toNat 8 else if f.kind = 3 then f.h else if f.kind = 4 then beB f.s.size 2 ++ f.s.data.toList else []
theorem enc1 {f : Fd} (h : f.kind = 1) : encF f = beB (f.n % 18446744073709551616).toNat 8 := by simp [encF, h]
theorem enc2 {f : Fd} (h : f.kind = 2) : encF f = beB f.wd.toNat 8 := by simp [encF, h]
theorem enc3 {f : Fd} (h : f.kind = 3) : encF f = f.h := by simp [encF, h]
theorem enc4 {f : Fd} (h : f.kind = 4) : encF f = beB f.s.size 2 ++ f.s.data.toList := by simp [encF, h]
theorem enc0 {f : Fd} (h1 : f.kind ≠ 1) (h2 : f.kind ≠ 2) (h3 : f.kind ≠ 3) (h4 : f.kind ≠ 4) : encF f = [] := by simp [encF, h1, h2, h3, h4]
def encL (l : List Fd) : List UInt8 := l.flatMap encF
theorem encL_take {l : List Fd} {k : Nat} {f : Fd} (h : l[k]? = some f) : encL (l.take (k + 1)) = encL (l.take k) ++ encF f := by
  rw [take_at h]
  simp [encL, List.flatMap_append]
theorem encL_drop {l : List Fd} {k : Nat} {f : Fd} (h : l[k]? = some f) : encL (l.drop k) = encF f ++ encL (l.drop (k + 1)) := by
  rw [drop_at h]
  simp [encL]
theorem wrap64_back {n : Int} (h : (Lit.int .i64 n).wf = true) : wrap64 ((n % 18446744073709551616).toNat : Nat) = n := by
  have := bounds_i64 h
  unfold wrap64
  omega
end Go.Proofs.YtclnpglnomfjkaaDoor

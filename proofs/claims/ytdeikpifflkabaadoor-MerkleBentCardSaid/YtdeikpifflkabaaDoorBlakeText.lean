/- What this text proves: the contract of blake.Text: a hash as 64 characters. No condition. -/
import Derived.Test.YtdeikpifflkabaaDoorBlakeFn
import Derived.Test.YtdeikpifflkabaaDoorBytes
import Derived.Maps.AppendAt
import Derived.Deep.AppendLies
import Derived.Laws.Strings
import Derived.Test.YtdeikpifflkabaaDoorConv
namespace Go.Proofs.YtdeikpifflkabaaDoor
open Go.RowKit
set_option linter.unusedVariables false
set_option linter.unusedSimpArgs false

theorem once {X G : Prop} (h : Hid X → G) (x : X) : G := h (Lib.hid x)
def hexS : List UInt8 := [48, 49, 50, 51, 52, 53, 54, 55, 56, 57, 97, 98, 99, 100, 101, 102]
def hexC (k : Nat) : UInt8 := hexS.getD k 0
def textF (l : List UInt8) : List UInt8 := l.flatMap fun c => [hexC (c.toNat / 16), hexC (c.toNat % 16)]
def hexB : ByteArray := ⟨hexS.toArray⟩
theorem run_hex (k : Nat) (hk : k < 16) (w : World) : (Instr.index 9 (.string hexB) (.int .u8 k)).run Tryd.prog w = .ok (.int .u8 ((hexC k).toNat : Int)) w := by
  have h1 : hexB.size = 16 := by decide +kernel
  have h3 : hexB[k]? = hexS[k]? := by
    rw [getElem?_pos hexB k (by omega), List.getElem?_eq_getElem (by rw [show hexS.length = 16 by decide +kernel]; exact hk)]
    rfl
  have h4 : hexS[k]? = some (hexC k) := by
    rw [hexC, List.getD_eq_getElem?_getD, List.getElem?_eq_getElem (by rw [show hexS.length = 16 by decide +kernel]; exact hk)]
    rfl
  have h2 : (k : Int) < 16 := by omega
  have h5 : (0 : Int) ≤ k := by omega
  unfold Instr.index
  obtain ⟨u, hu⟩ : ∃ u, hexC k = u := ⟨_, rfl⟩
  rw [hu] at h4 ⊢
  rw [h4] at h3
  clear h4 hu
  obtain ⟨B, hB⟩ : ∃ B, hexB = B := ⟨_, rfl⟩
  rw [hB] at h1 h3 ⊢
  clear hB
  simp [asIntOf, h1, h3, h5]
theorem hex_at (k : Nat) (hk : k < 16) {i : Int} (hi : i = k) (h : i.toNat < hexB.size) : (hexB[i.toNat]'h) = hexC k := by
  subst hi
  have : ∀ k : Fin 16, hexS[k.val]? = some (hexC k.val) := by decide +kernel
  have h2 := this ⟨k, hk⟩
  have h3 : hexB[k]? = hexS[k]? := by
    rw [getElem?_pos hexB k h, List.getElem?_eq_getElem (by rw [show hexS.length = 16 by decide +kernel]; exact hk)]
    rfl
  rw [h2, getElem?_pos hexB k h] at h3
  exact Option.some.inj h3
theorem two_vals {p p' q q' : UInt8} (h : p = p') (h' : q = q') : [Value.int .u8 (p.toNat : Int), .int .u8 (q.toNat : Int)] = [Value.int .u8 (p'.toNat : Int), .int .u8 (q'.toNat : Int)] := by rw [h, h']
theorem textF_len (l : List UInt8) : (textF l).length = 2 * l.length := by
  induction l with
  | nil => rfl
  | cons c l ih => simp only [textF, List.flatMap_cons, List.length_append, List.length_cons, List.length_nil] at ih ⊢; omega
theorem shr4 (c : UInt8) : (c.toNat : Int) / 2 ^ 4 = ((c.toNat / 16 : Nat) : Int) := by omega
theorem and15 (c : UInt8) : bits .and .u8 (c.toNat : Int) 15 = ((c.toNat % 16 : Nat) : Int) := by
  have : ∀ c : Fin 256, bits .and .u8 (c.val : Int) 15 = ((c.val % 16 : Nat) : Int) := by decide +kernel
  exact this ⟨c.toNat, c.toNat_lt⟩

theorem step_val {P : Program} {ops : Array Oper} {o : Oper} {a : Act} {w : World} {K : Act → World → Prop} {Q : Exit → Act → World → Prop} {E : Prop} {v : Value} (hgd : o.guard = none) (hr : (execOp a.eval o).run P w = .ok (.value v) w) (h : K (a.put o.dst v) w) :
    if Region.wanted o (yielded ops a.tmps) = true then Oper.wp P o a w K Q else E := by
  rw [if_pos (by simp [Region.wanted, hgd])]
  unfold Oper.wp
  rw [hr]
  exact h

set_option maxRecDepth 100000 in
set_option maxHeartbeats 4000000 in
theorem text_any (l : List UInt8) (hl : l.length = 32) (w : World) :
    Calls Tryd.prog 25 #[.agg (bts l).toArray] w fun e w' => e = .returned (.string ⟨(textF l).toArray⟩) ∧ Below w.heap.size w w' := by
  go_enter Tryd.func25, Tryd.ntmps25
  go_upto_region 2 with fail
  have T1 := Bk.new w 26 (bts l).toArray
  have L1 : Below w.heap.size w (w.alloc (.cells (bts l).toArray 26)) := (by (first | assumption | (repeat (first | exact Below.refl _ _ | assumption | apply Below.drew | apply below_drewN | (refine Below.setCell ?_ (by (try simp) <;> omega) _) | (refine Below.alloc ?_ (by (try simp) <;> omega) _)))))
  obtain ⟨w1, hw1⟩ : ∃ x, w.alloc (.cells (bts l).toArray 26) = x := ⟨_, rfl⟩
  obtain ⟨gt, hgt⟩ : ∃ x, w.heap.size = x := ⟨_, rfl⟩
  rw [hw1] at T1 L1 ⊢
  rw [hgt] at T1 L1 ⊢
  clear hw1
  have hbl : (bts l).length = 32 := by rw [bts_len, hl]
  have rT := T1.all
  have HL1 := Lib.hid L1
  clear L1 T1
  go_wp2_with (refine wpList_val (by rfl) (run_load_seg 26 _ (by with_reducible rfl) gt 0 (by rfl) _ rT 32 hbl _ Tryd.underlying26 (by rfl) hi_hash) ?_)
  go_loopw [3, 7] (fun v i wr => ∃ (k : Nat), k ≤ 32 ∧ i = .int .i64 k ∧ wr.ownsRow gt 5 1 v (2 * k) (bts (textF (l.take k))) ∧ Below gt w wr) (fun _ i _ => 32 - (intOf i).toNat)
  case atStart => exact ⟨0, by omega, rfl, ⟨rfl, .inl ⟨rfl, rfl⟩⟩, HL1.out⟩
  case round =>
    obtain ⟨k, hk, rfl, ho, hbel⟩ := hrel
    have HBel := Lib.hid hbel
    have HOwn := Lib.hid ho
    clear hbel ho
    by_cases hlt : k < 32
    · have hlt' : (k : Int) < 32 := by omega
      obtain ⟨c, hc⟩ : ∃ c, l[k]? = some c := ⟨_, List.getElem?_eq_getElem (by omega)⟩
      have hix := fun W => run_index_arr (P := Tryd.prog) (k := .u8) W Tryd.underlying26 Tryd.underlying5 (hs_u8' W) hlt (by rw [List.getElem?_toArray]; exact bts_at hc)
      have HIX := Lib.hid hix
      clear hix
      go_upto_region 5 with (refine wpList_val (by rfl) (run_index_val 26 _ _ (by with_reducible rfl) (by rfl) (by rfl) (HIX.out _)) ?_)
      obtain ⟨i0, hi, hz0, hz1, hz2⟩ := info_parts u8_info
      have hx := c.toNat_lt
      obtain ⟨x, hxe⟩ : ∃ x, c.toNat = x := ⟨_, rfl⟩
      have hsh := shr4 c
      have han := and15 c
      rw [hxe] at hsh han hx ⊢
      have h1x : x / 16 < 16 := by omega
      have h2x : x % 16 < 16 := by omega
      have hA : 0 ≤ (x : Int) / 16 ∧ (x : Int) / 16 < 16 := by omega
      have hB : 0 ≤ (x : Int) % 16 ∧ (x : Int) % 16 < 16 := by omega
      obtain ⟨HX, hHX⟩ : ∃ X : List Value, X = [.int .u8 ((hexC (x / 16)).toNat : Int), .int .u8 ((hexC (x % 16)).toNat : Int)] := ⟨_, rfl⟩
      have hnext : bts (textF (l.take k)) ++ HX = bts (textF (l.take (k + 1))) := by
        rw [take_at hc, textF, textF, List.flatMap_append, hHX, ← hxe]
        simp [bts]
      have hsz := HBel.out.size
      rw [hgt] at hsz
      go_region_law (first
        | (refine step_append_lies _ (by rfl) _ _ _ (by rfl) gt 5 i0 _ 1 1 Tryd.underlying59 hi hz0 hz1 hz2 rfl (by omega) u3 (2 * k) (bts (textF (l.take k))) (by rfl) ((HOwn.out.alloc _).drew)
            ⟨wr.heap.size, 0, none⟩ 2 2 _ (by rfl) (by rfl) (World.news_of_block (cs := #[_, _]) (t := 5) (fr := (0, 0)) (heap_alloc_new wr _)) (by simp [Value.oneCell'])
            (by omega) (by unfold maxLen; omega) (by omega) (by simp; omega) _ (by rfl) ?_; intro gg cap w2 hown2 hgrow hat hlt))
      all_goals
        have hb2 := ((HBel.out.alloc hsz (.cells _ 5)).drew).grown hgrow (by simp; omega) (fun k hk => (own_cells HOwn.out hk).1)
        have hown3 : w2.ownsRow gt 5 1 (.slice (some ⟨gg, 0, none⟩) (2 * k + 2) cap) (2 * k + 2) (bts (textF (l.take (k + 1)))) := by
          rw [← hnext]
          have e : ∀ L : List Value, L = HX → w2.ownsRow gt 5 1 (.slice (some ⟨gg, 0, none⟩) (2 * k + 2) cap) (2 * k + 2) (bts (textF (l.take k)) ++ L) → w2.ownsRow gt 5 1 (.slice (some ⟨gg, 0, none⟩) (2 * k + 2) cap) (2 * k + 2) (bts (textF (l.take k)) ++ HX) := by
            rintro _ rfl h; exact h
          exact e _ (by rw [hHX]; exact two_vals (hex_at _ h1x (by omega) _) (hex_at _ h2x (by omega) _)) hown2
        have HB2 := Lib.hid hb2
        have HO2 := Lib.hid hown3
        clear hown2 hgrow hat hb2 hown3
        go_wp2_with fail
        go_roundw
        case rel => exact ⟨k + 1, by omega, by go_num, HO2.out, HB2.out⟩
        case measure => simp [intOf]; omega
    · obtain rfl : k = 32 := by omega
      have ht : l.take 32 = l := List.take_of_length_le (by omega)
      have ho := HOwn.out
      rw [ht] at ho
      obtain ⟨A, c, rfl, h1, h2, hs⟩ := own_sl ho
      have hlen : (textF l).length = 2 * 32 := by rw [textF_len, hl]
      rw [← hlen] at hs ⊢
      have hcv := run_conv (P := Tryd.prog) (dst := 9) Tryd.underlying59 Tryd.underlying5 Tryd.underlying9 c hs
      have HT : Hid ((⟨(textF l).toArray⟩ : ByteArray) = strOf (textF l)) := Lib.hid rfl
      obtain ⟨s, hs'⟩ : ∃ s, strOf (textF l) = s := ⟨_, rfl⟩
      rw [hs'] at hcv HT
      clear hs ho HOwn hs' hlen h1
      go_wp2_with fail
      go_ret
      exact ⟨by rw [HT.out]; rfl, by rw [hgt]; exact HBel.out⟩
end Go.Proofs.YtdeikpifflkabaaDoor

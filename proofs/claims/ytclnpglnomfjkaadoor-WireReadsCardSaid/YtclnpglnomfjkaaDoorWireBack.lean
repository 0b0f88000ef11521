/- What this text proves: the contract of the law WireBack. The conditions are how the arguments lie in memory. -/
import Derived.Test.YtclnpglnomfjkaaDoorWirePure
import Derived.Deep.RegionHeld3
namespace Go.Proofs.YtclnpglnomfjkaaDoor
open Go.RowKit Go.Shelf
set_option linter.unusedVariables false
set_option linter.unusedSimpArgs false

/-- What is known while the fields are written: behind k of them, c1 of them with bytes. -/
structure BkI (w W : World) (b : Nat) (l : List Fd) (k : Nat) (c1 : Int) : Prop where
  bel : Below w.heap.size w W
  wr : Wr W w.heap.size b false (encL (l.take k))
  len : (encL (l.take k)).length ≤ 5000 * k
  cnt : 0 ≤ c1 ∧ c1 ≤ k ∧ (0 < c1 ↔ 0 < (encL (l.take k)).length)
  txt : ∀ f ∈ l.take k, f.kind = 4 → f.s.size ≤ 4096
theorem txt_next {L : List Fd} {k : Nat} {f : Fd} (h : ∀ f ∈ L.take k, f.kind = 4 → f.s.size ≤ 4096) (hf : L[k]? = some f) (ht : f.kind = 4 → f.s.size ≤ 4096) : ∀ f ∈ L.take (k + 1), f.kind = 4 → f.s.size ≤ 4096 := by
  rw [take_at hf]
  intro g hg
  rcases List.mem_append.1 hg with hg | hg
  · exact h g hg
  · rw [List.mem_singleton.1 hg]; exact ht
theorem BkI.next {w W W' : World} {b : Nat} {L : List Fd} {k : Nat} {c1 : Int} {f : Fd} {x : List UInt8} (h : BkI w W b L k c1) (hf : L[k]? = some f) (hw : WP W w.heap.size b false (encL (L.take k) ++ x) W') (he : encF f = x) (hx : 0 < x.length ∧ x.length ≤ 5000) (ht : f.kind = 4 → f.s.size ≤ 4096) : BkI w W' b L (k + 1) (c1 + 1) := by
  have e : encL (L.take (k + 1)) = encL (L.take k) ++ x := by rw [encL_take hf, he]
  refine ⟨h.bel.trans hw.2.1, by rw [e]; exact hw.1, by rw [e, List.length_append]; have := h.len; omega, ?_, txt_next h.txt hf ht⟩
  obtain ⟨h1, h2, h3⟩ := h.cnt
  refine ⟨by omega, by push_cast; omega, ?_⟩
  rw [e, List.length_append]
  constructor <;> intro <;> omega
theorem BkI.same {w W : World} {b : Nat} {L : List Fd} {k : Nat} {c1 : Int} {f : Fd} (h : BkI w W b L k c1) (hf : L[k]? = some f) (he : encF f = []) (ht : f.kind = 4 → f.s.size ≤ 4096) : BkI w W b L (k + 1) c1 := by
  have e : encL (L.take (k + 1)) = encL (L.take k) := by rw [encL_take hf, he, List.append_nil]
  obtain ⟨h1, h2, h3⟩ := h.cnt
  exact ⟨h.bel, by rw [e]; exact h.wr, by rw [e]; have := h.len; omega, ⟨by omega, by push_cast; omega, by rw [e]; exact h3⟩, txt_next h.txt hf ht⟩

/-- What is known while the fields are read, by two readers, the one with a byte more. -/
structure LI (w W : World) (g g2 : Nat) (s t : List UInt8) : Prop where
  bel : Below w.heap.size w W
  one : RdS W g (some s)
  two : RdS W g2 (some t)
  ge : w.heap.size ≤ g
  lt : g < g2
theorem rd_no8 {w : World} {g : Nat} {s : Option (List UInt8)} (h : RdS w g s) : ∀ cur, w.heap[g]? ≠ some (.cells cur 5 (0, 0)) := by
  cases s with
  | some l => obtain ⟨A, c, hk, _⟩ := h; exact hk.no8 (by decide)
  | none => obtain ⟨l, A, c, hk, _⟩ := h; exact hk.no8 (by decide)
theorem LI.first {w W W' : World} {g g2 : Nat} {s t s' : List UInt8} {v : Value} {e : Ending} (h : LI w W g g2 s t) (hm : MP W g (v, some s') e W') : e = .returned v ∧ LI w W' g g2 s' t :=
  ⟨hm.1, h.bel.grown hm.2.2 h.bel.size (fun k e => by cases e; exact h.ge), hm.2.1, h.two.move hm.2.2 (by have := h.lt; omega) (rd_no8 h.one), h.ge, h.lt⟩
theorem LI.second {w W W' : World} {g g2 : Nat} {s t t' : List UInt8} {v : Value} {e : Ending} (h : LI w W g g2 s t) (hm : MP W g2 (v, some t') e W') : e = .returned v ∧ LI w W' g g2 s t' :=
  ⟨hm.1, h.bel.grown hm.2.2 h.bel.size (fun k e => by cases e; have := h.ge; have := h.lt; omega), h.one.move hm.2.2 (by have := h.lt; omega) (rd_no8 h.two), hm.2.1, h.ge, h.lt⟩
theorem rs_some {R : List UInt8 → Option (Value × List UInt8)} {zero v : Value} {s s' : List UInt8} (h : R s = some (v, s')) : rstep R zero (some s) = (v, some s') := by simp [rstep, h]
theorem num_some {s s' : List UInt8} {x n : Int} (h : wordR s = some (.int .u64 x, s')) (hx : wrap64 x = n) : (numV (rstep wordR (.int .u64 0) (some s)).1, (rstep wordR (.int .u64 0) (some s)).2) = (.int .i64 n, some s') := by
  rw [rs_some h]
  simp only [numV]
  rw [← wrap64_eq, hx]
theorem rd_drew {w : World} {g : Nat} {s : Option (List UInt8)} (h : RdS w g s) : RdS w.drew g s := h.old (by (first | assumption | (repeat (first | exact Below.refl _ _ | assumption | apply Below.drew | apply below_drewN | (refine Below.setCell ?_ (by (try simp) <;> omega) _) | (refine Below.alloc ?_ (by (try simp) <;> omega) _)))))
theorem LI.drew {w W : World} {g g2 : Nat} {s t : List UInt8} (h : LI w W g g2 s t) : LI w W.drew g g2 s t :=
  ⟨h.bel.trans (by (first | assumption | (repeat (first | exact Below.refl _ _ | assumption | apply Below.drew | apply below_drewN | (refine Below.setCell ?_ (by (try simp) <;> omega) _) | (refine Below.alloc ?_ (by (try simp) <;> omega) _))))), rd_drew h.one, rd_drew h.two, h.ge, h.lt⟩
theorem LI.cut {w W : World} {g g2 : Nat} {L : List Fd} {k : Nat} {f : Fd} {more : UInt8} (h : LI w W g g2 (encL (L.drop k)) (encL (L.drop k) ++ [more])) (hf : L[k]? = some f) : LI w W.drew g g2 (encF f ++ encL (L.drop (k + 1))) (encF f ++ (encL (L.drop (k + 1)) ++ [more])) := by
  have h := h.drew
  rw [encL_drop hf, List.append_assoc] at h
  exact h
theorem LI.skip {w W : World} {g g2 : Nat} {L : List Fd} {k : Nat} {f : Fd} {more : UInt8} (h : LI w W g g2 (encL (L.drop k)) (encL (L.drop k) ++ [more])) (hf : L[k]? = some f) (he : encF f = []) : LI w W g g2 (encL (L.drop (k + 1))) (encL (L.drop (k + 1)) ++ [more]) := by
  rw [encL_drop hf, he, List.nil_append] at h
  exact h
abbrev Pt (g : Nat) : Value := .pointer (some ⟨g, 0, none⟩)
section
variable {w W : World} {g g2 : Nat} {s t : List UInt8}
theorem LI.num1 {n : Int} (hn : (Lit.int .i64 n).wf = true) (h : LI w W g g2 (beB (n % 18446744073709551616).toNat 8 ++ s) t) : Calls Tryd.prog 21 #[Pt g] W fun e W' => e = .returned (.int .i64 n) ∧ LI w W' g g2 s t :=
  (mNumber_any g _ W h.one).mono fun e W' hm => by rw [num_some (wordR_enc _ (by omega) s) (wrap64_back hn)] at hm; exact h.first hm
theorem LI.num2 {n : Int} (hn : (Lit.int .i64 n).wf = true) (h : LI w W g g2 s (beB (n % 18446744073709551616).toNat 8 ++ t)) : Calls Tryd.prog 21 #[Pt g2] W fun e W' => e = .returned (.int .i64 n) ∧ LI w W' g g2 s t :=
  (mNumber_any g2 _ W h.two).mono fun e W' hm => by rw [num_some (wordR_enc _ (by omega) t) (wrap64_back hn)] at hm; exact h.second hm
theorem LI.word1 {x : Nat} (hx : x < 18446744073709551616) (h : LI w W g g2 (beB x 8 ++ s) t) : Calls Tryd.prog 23 #[Pt g] W fun e W' => e = .returned (.int .u64 x) ∧ LI w W' g g2 s t :=
  (mWord_any g _ W h.one).mono fun e W' hm => by rw [rs_some (wordR_enc x hx s)] at hm; exact h.first hm
theorem LI.word2 {x : Nat} (hx : x < 18446744073709551616) (h : LI w W g g2 s (beB x 8 ++ t)) : Calls Tryd.prog 23 #[Pt g2] W fun e W' => e = .returned (.int .u64 x) ∧ LI w W' g g2 s t :=
  (mWord_any g2 _ W h.two).mono fun e W' hm => by rw [rs_some (wordR_enc x hx t)] at hm; exact h.second hm
theorem LI.hash1 {x : List UInt8} (hx : x.length = 32) (h : LI w W g g2 (x ++ s) t) : Calls Tryd.prog 25 #[Pt g] W fun e W' => e = .returned (.agg (bts x).toArray) ∧ LI w W' g g2 s t :=
  (mHash_any g _ W h.one).mono fun e W' hm => by rw [rs_some (hashR_enc x hx s)] at hm; exact h.first hm
theorem LI.hash2 {x : List UInt8} (hx : x.length = 32) (h : LI w W g g2 s (x ++ t)) : Calls Tryd.prog 25 #[Pt g2] W fun e W' => e = .returned (.agg (bts x).toArray) ∧ LI w W' g g2 s t :=
  (mHash_any g2 _ W h.two).mono fun e W' hm => by rw [rs_some (hashR_enc x hx t)] at hm; exact h.second hm
theorem LI.text1 {x : ByteArray} (hx : x.size ≤ 4096) (h : LI w W g g2 ((beB x.size 2 ++ x.data.toList) ++ s) t) : Calls Tryd.prog 27 #[Pt g] W fun e W' => e = .returned (.string x) ∧ LI w W' g g2 s t :=
  (mText_any g _ W h.one).mono fun e W' hm => by rw [rs_some (textR_enc x hx s)] at hm; exact h.first hm
theorem LI.text2 {x : ByteArray} (hx : x.size ≤ 4096) (h : LI w W g g2 s ((beB x.size 2 ++ x.data.toList) ++ t)) : Calls Tryd.prog 27 #[Pt g2] W fun e W' => e = .returned (.string x) ∧ LI w W' g g2 s t :=
  (mText_any g2 _ W h.two).mono fun e W' hm => by rw [rs_some (textR_enc x hx t)] at hm; exact h.second hm
end
theorem fd_all {w : World} {B : Nat} {A : Option Addr} {l : List Fd} (h : Sl w B 36 A l.length (l.flatMap Fd.cells)) (hg : ∀ i ∈ l, i.good) {k : Nat} {f : Fd} (hk : l[k]? = some f) : ∃ b off, A = some ⟨b, off, none⟩ ∧ ∀ W, Below B w W → FdAt W b (off + k * 36) f := by
  obtain ⟨b, off, hA, _, _⟩ := fd_at h hg hk
  refine ⟨b, off, hA, fun W hW => ?_⟩
  obtain ⟨b', off', hA', _, hf⟩ := fd_at (h.below hW) hg hk
  rw [hA] at hA'
  cases hA'
  exact hf
theorem run_fd_ix {o : Oper} {a : Act} {W : World} (x y : Operand) (ho : o.op = .indexAddr 22 x y) (b off n c k : Nat) (hx : a.eval x = .slice (some ⟨b, off, none⟩) n c) (hy : a.eval y = .int .i64 (k : Int)) (hk : k < n) : (execOp a.eval o).run Tryd.prog W = .ok (.value (.pointer (some ⟨b, off + k * 36, none⟩))) W := by
  have h1 : (0 : Int) ≤ (k : Int) := by omega
  have h2 : (k : Int) < (n : Int) := by omega
  unfold execOp
  simp only [ho, hx, hy]
  go_simp
theorem run_fd_h {o : Oper} {a : Act} {W : World} (x : Operand) (ho : o.op = .fieldAddr 31 x 3) (b off : Nat) (hx : a.eval x = .pointer (some ⟨b, off, none⟩)) : (execOp a.eval o).run Tryd.prog W = .ok (.value (.pointer (some ⟨b, off + 3, none⟩))) W := by
  unfold execOp
  simp only [ho, hx]
  go_simp
theorem own_zero (w : World) : (w.alloc (.cells #[] 5)).ownsRow w.heap.size 5 1 (.slice (some ⟨w.heap.size, 0, none⟩) 0 0) 0 [] := World.ownsRow_made (base := w.heap.size) (e := 5) (size := 1) w #[] 0 (Nat.le_refl _) (by unfold maxLen; omega) (by simp)
theorem one_sl8 (w : World) (x : UInt8) : Sl (w.alloc (.cells #[.int .u8 (x.toNat : Int)] 5)) (w.alloc (.cells #[.int .u8 (x.toNat : Int)] 5)).heap.size 1 (some ⟨w.heap.size, 0, none⟩) 1 (bts [x]) := by
  refine ⟨rfl, fun _ => ⟨w.heap.size, 0, rfl, by simp, fun j u hu => ?_⟩⟩
  rw [Nat.zero_add, (Bk.new w 5 #[.int .u8 (x.toNat : Int)]).cell j]
  simpa [bts] using hu
theorem Own8.row_old {w w' : World} {B n : Nat} {v : Value} {xs : List Value} (h : w.ownsRow B 5 1 v n xs) (hb : Below w.heap.size w w') : w'.ownsRow B 5 1 v n xs := by
  refine ⟨h.1, ?_⟩
  rcases h.2 with h | ⟨g, cap, cur, h1, h2, h3, rest⟩
  · exact .inl h
  · exact .inr ⟨g, cap, cur, h1, h2, (hb.block g (Lib.lt_of_heap h3)).trans h3, rest⟩
theorem alloc_bel8 (w : World) (cs : Array Value) (t : TypeId) : Below w.heap.size w (w.alloc (.cells cs t)) := (by (first | assumption | (repeat (first | exact Below.refl _ _ | assumption | apply Below.drew | apply below_drewN | (refine Below.setCell ?_ (by (try simp) <;> omega) _) | (refine Below.alloc ?_ (by (try simp) <;> omega) _)))))

set_option maxRecDepth 100000 in
set_option maxHeartbeats 16000000 in
theorem back_any (A : Option Addr) (l : List Fd) (c : Nat) (w : World) (hl : l.length ≤ c) (hcm : c ≤ maxLen) (hA : Sl w w.heap.size 36 A l.length (l.flatMap Fd.cells)) (hf : ∀ i ∈ l, i.good) (more : UInt8) :
    Calls Tryd.prog 7 #[.slice A l.length c, .int .u8 (more.toNat : Int)] w fun e w' => e = .returned (.bool true) ∧ Below w.heap.size w w' := by
  have hzh := zero_hash
  obtain ⟨i0, hi0, hz0, hz1, hz2⟩ := info_parts wu8_info
  have HS := Lib.hid hA
  have HF := Lib.hid hf
  unfold maxLen at hcm
  obtain ⟨L, hL⟩ : ∃ L, l.take 40 = L := ⟨_, rfl⟩
  obtain ⟨m, hm⟩ : ∃ m, L.length = m := ⟨_, rfl⟩
  have hml : m = min 40 l.length := by rw [← hm, ← hL, List.length_take]
  have HLK : Hid (∀ k, k < m → L[k]? = l[k]?) := Lib.hid (fun k hk => by rw [← hL, List.getElem?_take, if_pos (by omega)])
  have HM := Lib.hid hm
  clear hA hf hL hm
  go_enter Tryd.func7, Tryd.ntmps7
  go_wp2_with fail
  with_reducible refine (newWriter_any w.heap.size w (Nat.le_refl _)).mono ?_
  rintro e w1 ⟨rfl, hw, hb⟩
  obtain ⟨b, hbn⟩ : ∃ b, w.heap.size = b := ⟨_, rfl⟩
  have HW := Lib.hid hw
  have HB := Lib.hid hb
  rw [hbn] at HW
  clear hw hb
  rw [hbn]
  go_wp2_with fail
  with_reducible refine (alive_any w1).mono ?_
  rintro e w2 ⟨rfl, hb⟩
  have HI := Lib.hid (show BkI w w2 b L 0 0 from ⟨HB.out.trans (hb.mono HB.out.size), by rw [hbn]; exact HW.out.old hb, by simp [encL], by simp [encL], by intro f hf; simp at hf⟩)
  have HBN := Lib.hid hbn
  clear hb HB HW hbn
  go_wp2_with fail
  go_loopw [6, 7] (fun n i wr => ∃ (k : Nat) (c1 : Int), k ≤ m ∧ i = .int .i64 k ∧ n = .int .i64 c1 ∧ BkI w wr b L k c1) (fun _ i _ => m - (intOf i).toNat)
  case atStart => exact ⟨0, 0, by omega, rfl, rfl, HI.out⟩
  case round =>
    obtain ⟨k, c1, hk1, rfl, rfl, hi⟩ := hrel
    have H := Lib.hid hi
    clear hi HI
    by_cases hlt : k < m
    · have e1 : (k : Int) < (l.length : Int) := by omega
      have e2 : (k : Int) < 40 := by omega
      have hk40 : k < 40 := by omega
      obtain ⟨f, hfk⟩ : ∃ f, l[k]? = some f := ⟨_, List.getElem?_eq_getElem (by omega)⟩
      have HGT : Hid (L[k]? = some f) := Lib.hid (by rw [HLK.out k hlt]; exact hfk)
      have HG := Lib.hid (HF.out f (List.mem_of_getElem? hfk))
      obtain ⟨ba, oa, rfl, hba, hfa⟩ := fd_at (HS.out.below H.out.bel) HF.out hfk
      have HG1 : Hid (f.h.length = 32) := Lib.hid HG.out.len
      have HFA := Lib.hid hfa
      have hck := hfa.kind
      have HLL : Hid ((encL (L.take k)).length ≤ 100000000) := Lib.hid (by have := H.out.len; omega)
      have hc1 := H.out.cnt.1
      have hc2 := H.out.cnt.2.1
      clear hfk hfa
      by_cases hk1 : f.kind = 1
      · have hk : f.kind = 1 := hk1
        have k1 : (f.kind == 1) = true := by simp; omega
        have hcn := HFA.out.n
        have HE := Lib.hid (enc1 hk)
        go_wp2_with fail
        with_reducible refine (wnumber_any w.heap.size b false _ f.n wr H.out.wr H.out.bel.size HLL.out).mono ?_
        rintro e w3 ⟨rfl, hw⟩
        have H5 := Lib.hid (H.out.next (L := L) HGT.out hw HE.out (by rw [beB_len]; omega) (by intro h4; omega))
        clear hw hck
        go_wp2_with fail
        go_roundw
        case rel => exact ⟨k + 1, c1 + 1, by omega, by go_num, by go_num, H5.out⟩
        case measure => simp [intOf]; try omega
      by_cases hk2 : f.kind = 2
      · have hk : f.kind = 2 := hk2
        have k1 : (f.kind == 1) = false := by simp; omega
        have k2 : (f.kind == 2) = true := by simp; omega
        have hcn := HFA.out.wd
        have HE := Lib.hid (enc2 hk)
        go_wp2_with fail
        with_reducible refine (wword_any w.heap.size b false _ f.wd.toNat f.wd (wd_nat HG.out).1 wr H.out.wr H.out.bel.size (wd_nat HG.out).2 HLL.out).mono ?_
        rintro e w3 ⟨rfl, hw⟩
        have H5 := Lib.hid (H.out.next (L := L) HGT.out hw HE.out (by rw [beB_len]; omega) (by intro h4; omega))
        clear hw hck
        go_wp2_with fail
        go_roundw
        case rel => exact ⟨k + 1, c1 + 1, by omega, by go_num, by go_num, H5.out⟩
        case measure => simp [intOf]; try omega
      by_cases hk3 : f.kind = 3
      · have hk : f.kind = 3 := hk3
        have k1 : (f.kind == 1) = false := by simp; omega
        have k2 : (f.kind == 2) = false := by simp; omega
        have k3 : (f.kind == 3) = true := by simp; omega
        have HE := Lib.hid (enc3 hk)
        go_wp2_with (refine wpList_val (by rfl) (run_load_seg 29 _ (by with_reducible rfl) _ _ (by rfl) _ HFA.out.h 32 (by rw [bts_len]; exact HG1.out) _ Tryd.underlying29 (by rfl) hhi) ?_)
        with_reducible refine (whash_any w.heap.size b false _ f.h wr H.out.wr H.out.bel.size HLL.out HG1.out).mono ?_
        rintro e w3 ⟨rfl, hw⟩
        have H5 := Lib.hid (H.out.next (L := L) HGT.out hw HE.out (by rw [HG1.out]; omega) (by intro h4; omega))
        clear hw hck
        go_wp2_with fail
        go_roundw
        case rel => exact ⟨k + 1, c1 + 1, by omega, by go_num, by go_num, H5.out⟩
        case measure => simp [intOf]; try omega
      by_cases hk4 : f.kind = 4
      · have hcs := HFA.out.s
        by_cases hsz : f.s.size ≤ 4096
        · have hk : f.kind = 4 := hk4
          have k1 : (f.kind == 1) = false := by simp; omega
          have k2 : (f.kind == 2) = false := by simp; omega
          have k3 : (f.kind == 3) = false := by simp; omega
          have k4 : (f.kind == 4) = true := by simp; omega
          have hsz2 : (f.s.size : Int) ≤ 4096 := by omega
          have hT := wtext_any w.heap.size b false _ f.s wr H.out.wr H.out.bel.size HLL.out hsz
          rw [List.append_assoc] at hT
          have HL4 : Hid ((beB f.s.size 2 ++ f.s.data.toList).length = 2 + f.s.size) := Lib.hid (by rw [List.length_append, beB_len]; rfl)
          have HT := Lib.hid hT
          clear hT
          have HE := Lib.hid (enc4 hk)
          go_wp2_with fail
          with_reducible refine (HT.out).mono ?_
          rintro e w3 ⟨rfl, hw⟩
          have H5 := Lib.hid (H.out.next (L := L) HGT.out hw HE.out (by rw [HL4.out]; omega) (fun _ => hsz))
          clear hw hck
          go_wp2_with fail
          go_roundw
          case rel => exact ⟨k + 1, c1 + 1, by omega, by go_num, by go_num, H5.out⟩
          case measure => simp [intOf]; try omega
        · have hk : f.kind = 4 := hk4
          have k1 : (f.kind == 1) = false := by simp; omega
          have k2 : (f.kind == 2) = false := by simp; omega
          have k3 : (f.kind == 3) = false := by simp; omega
          have k4 : (f.kind == 4) = true := by simp; omega
          have hsz2 : decide (4096 < (f.s.size : Int)) = true := by simp; omega
          go_wp2_with fail
          go_ret
          exact ⟨rfl, H.out.bel⟩
      · have H5 := Lib.hid (H.out.same (L := L) HGT.out (enc0 hk1 hk2 hk3 hk4) (fun h4 => absurd h4 hk4))
        have k1 : (f.kind == 1) = false := by simp; omega
        have k2 : (f.kind == 2) = false := by simp; omega
        have k3 : (f.kind == 3) = false := by simp; omega
        have k4 : (f.kind == 4) = false := by simp; omega
        go_wp2_with fail
        go_roundw
        case rel => exact ⟨k + 1, c1, by omega, by go_num, by go_num, H5.out⟩
        case measure => simp [intOf]; try omega
    · obtain rfl : m = k := by omega
      have hall : L.take m = L := List.take_of_length_le (by rw [HM.out]; exact Nat.le_refl _)
      obtain ⟨E, hE⟩ : ∃ E, encL L = E := ⟨_, rfl⟩
      obtain ⟨ne, hne⟩ : ∃ n, E.length = n := ⟨_, rfl⟩
      have hwr := H.out.wr
      have hcn := H.out.cnt
      have hlen := H.out.len
      rw [hall, hE] at hwr hcn hlen
      rw [hne] at hcn hlen
      have HWR := Lib.hid hwr
      have HE := Lib.hid hE
      have HNE := Lib.hid hne
      have HB0 := Lib.hid H.out.bel
      have htx := H.out.txt
      rw [hall] at htx
      have HTX := Lib.hid htx
      clear htx
      have ecn : (decide (0 < c1) == decide (0 < ne)) = true := by
        rw [beq_iff_eq]
        have h2 := hcn.2.2
        by_cases h : 0 < c1
        · rw [decide_eq_true h, decide_eq_true (by have := h2.1 h; omega)]
        · rw [decide_eq_false h, decide_eq_false (by intro h3; exact h (h2.2 (by omega)))]
      have hne2 : ne ≤ 200000 := by omega
      have HY := Lib.hid (wbytes_any _ _ _ wr hwr (by rw [hne]; omega))
      have e1 : (decide ((m : Int) < (l.length : Int)) && decide ((m : Int) < 40)) = false := by
        rw [Bool.and_eq_false_iff, decide_eq_false_iff_not, decide_eq_false_iff_not]; omega
      clear hwr hcn hlen hall hE hne H
      rcases Nat.lt_or_ge m l.length with h1 | h1
      · have e2 : decide ((m : Int) < (l.length : Int)) = true := by simp; omega
        have e3 : decide ((m : Int) < 40) = false := by simp; omega
        clear e1
        go_wp2_with fail
        with_reducible refine HY.out.mono ?_
        rintro e w3 ⟨v3, rfl, ho3, hb3⟩
        have HB3 := Lib.hid (HB0.out.trans (hb3.mono HB0.out.size))
        obtain ⟨A3, c3, rfl, hlc3, hcm3, hs3, hz3, _⟩ := own8_form ho3
        rw [HNE.out] at hs3 hlc3 ⊢
        have HR := Lib.hid (newReader_any A3 ne c3 E HNE.out w3 (by omega) hs3)
        have HS3 := Lib.hid hs3
        clear ho3 hb3 hs3 HY
        go_wp2_with fail
        with_reducible refine HR.out.mono ?_
        rintro e w4 ⟨g, rfl, hg, hr, hb4⟩
        have HB4 := Lib.hid (HB3.out.trans (hb4.mono HB3.out.size))
        have HGE : Hid (w.heap.size ≤ g) := Lib.hid (Nat.le_trans HB3.out.size hg)
        have HR4 := Lib.hid hr
        have HS4 := Lib.hid ((HS3.out.below hb4).more hb4.size)
        clear hg hr hb4 HR
        go_wp2_with (first
          | (refine wpList_append_sl (w4.alloc (.cells #[] 5)) (by rfl) _ _ 26 (by rfl) w4.heap.size 5 i0 _ 1 1 Tryd.underlying26 hi0 hz0 hz1 hz2 rfl (by omega) (.slice (some ⟨w4.heap.size, 0, none⟩) 0 0) 0 [] (by rfl) (own_zero w4) A3 ne c3 (bts E) (by rfl) ((HS4.out.below (alloc_bel8 w4 _ _)).more (alloc_bel8 w4 _ _).size) bts_one (by unfold maxLen; omega) (by omega) (by simp) ?_; intro v10 w10 ho_ hg_ hv_; have O10 : Hid (w10.ownsRow w4.heap.size 5 1 v10 ne (bts E)) := Lib.hid (by rw [Nat.zero_add, List.nil_append] at ho_; exact ho_); have L10 : Hid (Below w4.heap.size w4 w10) := Lib.hid ((alloc_bel8 w4 _ _).grown hg_ (by simp) (fun k hk => (own_cells (own_zero w4) hk).1)); clear ho_ hg_ hv_)
          | (refine wpList_append_sl (w10.alloc (.cells #[.int .u8 (more.toNat : Int)] 5)) (by rfl) _ _ 26 (by rfl) w4.heap.size 5 i0 _ 1 1 Tryd.underlying26 hi0 hz0 hz1 hz2 rfl (by omega) v10 ne (bts E) (by rfl) (Own8.row_old O10.out (alloc_bel8 w10 _ _)) (some ⟨w10.heap.size, 0, none⟩) 1 1 (bts [more]) (by rfl) (one_sl8 w10 more) bts_one (by unfold maxLen; omega) (by omega) (by have := L10.out.size; simp; omega) ?_; intro v28 w28 ho_ hg_ hv_; have O28 : Hid (w28.ownsRow w4.heap.size 5 1 v28 (ne + 1) (bts (E ++ [more]))) := Lib.hid (by rw [bts_app]; exact ho_); have L28 : Hid (Below w4.heap.size w4 w28) := Lib.hid ((L10.out.trans ((alloc_bel8 w10 _ _).mono L10.out.size)).grown hg_ (Nat.le_trans L10.out.size (alloc_bel8 w10 _ _).size) (fun k hk => (own_cells O10.out hk).1)); clear ho_ hg_ hv_))
        obtain ⟨A5, c5, rfl, hlc5, hcm5, hs5⟩ := own_sl O28.out
        have HR := Lib.hid (newReader_any A5 (ne + 1) c5 (E ++ [more]) (by simp [HNE.out]) w28 (by omega) hs5)
        clear hs5 O28 O10 L10
        go_wp2_with fail
        with_reducible refine HR.out.mono ?_
        rintro e w6 ⟨g2, rfl, hg2, hr2, hb6⟩
        have h46 := L28.out.trans (hb6.mono L28.out.size)
        have HI2 : Hid (LI w w6 g g2 (encL (L.drop 0)) (encL (L.drop 0) ++ [more])) := Lib.hid (by
          rw [List.drop_zero, HE.out]
          exact ⟨HB4.out.trans (h46.mono HB4.out.size), HR4.out.old h46, hr2, HGE.out, Nat.lt_of_lt_of_le HR4.out.lt (Nat.le_trans L28.out.size hg2)⟩)
        clear hg2 hr2 hb6 h46 HR HR4 HS4 HS3 L28
        go_wp2_with fail
        go_loopw [12] (fun i wr => ∃ k : Nat, k ≤ m ∧ i = .int .i64 k ∧ LI w wr g g2 (encL (L.drop k)) (encL (L.drop k) ++ [more])) (fun i _ => m - (intOf i).toNat)
        case atStart => exact ⟨0, by omega, rfl, HI2.out⟩
        case round =>
          obtain ⟨k, hk1, rfl, hi⟩ := hrel
          have H := Lib.hid hi
          clear hi HI2
          by_cases hlt : k < m
          · have e1 : (k : Int) < (l.length : Int) := by omega
            have e2 : (k : Int) < 40 := by omega
            have hk40 : k < 40 := by omega
            obtain ⟨f, hfk⟩ : ∃ f, l[k]? = some f := ⟨_, List.getElem?_eq_getElem (by omega)⟩
            have HGT : Hid (L[k]? = some f) := Lib.hid (by rw [HLK.out k hlt]; exact hfk)
            have HG := Lib.hid (HF.out f (List.mem_of_getElem? hfk))
            obtain ⟨ba, oa, rfl, hfd⟩ := fd_all HS.out HF.out hfk
            have HG1 : Hid (f.h.length = 32) := Lib.hid HG.out.len
            have HFD := Lib.hid hfd
            have hck := (HFD.out wr H.out.bel).kind
            clear hfk hfd
            by_cases hk1 : f.kind = 1
            · have hk : f.kind = 1 := hk1
              have k1 : (f.kind == 1) = true := by simp; omega
              have hgn := HG.out.2.1
              have h0 := H.out.cut HGT.out
              rw [enc1 hk] at h0
              have hld := (HFD.out wr.drew h0.bel).n
              have HC1 := Lib.hid (LI.num1 hgn h0)
              have HC2 := Lib.hid (fun W (h : LI w W g g2 _ _) => LI.num2 (w := w) (W := W) (g := g) (g2 := g2) (s := encL (L.drop (k + 1))) (t := encL (L.drop (k + 1)) ++ [more]) hgn h)
              clear h0
              go_wp2_with fail
              go_region_held3 (fun w' => w'.cell? ⟨ba, oa + k * 36 + 1, none⟩ = some (.int .i64 f.n)) (first | exact hld | exact HK3.out | exact HK4.out | go_keep)
                (first
                  | (go_at_call 21; with_reducible refine HC1.out.mono ?_; rintro e w8 ⟨rfl, h8⟩; have HK3 := Lib.hid (HFD.out w8 h8.bel).n; have H8 := Lib.hid h8; clear h8)
                  | (go_at_call 21; with_reducible refine (HC2.out w8 H8.out).mono ?_; rintro e w9 ⟨rfl, h9⟩; have HK4 := Lib.hid (HFD.out w9 h9.bel).n; have H9 := Lib.hid h9; clear h9))
              all_goals go_wp2_with fail
              all_goals go_roundw
              case rel => exact ⟨k + 1, by omega, by go_num, H9.out⟩
              case measure => simp [intOf]; try omega
            by_cases hk2 : f.kind = 2
            · have hk : f.kind = 2 := hk2
              have k1 : (f.kind == 1) = false := by simp; omega
              have k2 : (f.kind == 2) = true := by simp; omega
              have hgw := (wd_nat HG.out).2
              have ewd := (wd_nat HG.out).1
              have h0 := H.out.cut HGT.out
              rw [enc2 hk] at h0
              have hld := (HFD.out wr.drew h0.bel).wd
              have HC1 := Lib.hid (LI.word1 hgw h0)
              have HC2 := Lib.hid (fun W (h : LI w W g g2 _ _) => LI.word2 (w := w) (W := W) (g := g) (g2 := g2) (s := encL (L.drop (k + 1))) (t := encL (L.drop (k + 1)) ++ [more]) hgw h)
              clear h0
              rw [← ewd] at HC1 HC2
              clear ewd
              go_wp2_with fail
              go_region_held3 (fun w' => w'.cell? ⟨ba, oa + k * 36 + 2, none⟩ = some (.int .u64 f.wd)) (first | exact hld | exact HK3.out | exact HK4.out | go_keep)
                (first
                  | (go_at_call 23; with_reducible refine HC1.out.mono ?_; rintro e w8 ⟨rfl, h8⟩; have HK3 := Lib.hid (HFD.out w8 h8.bel).wd; have H8 := Lib.hid h8; clear h8)
                  | (go_at_call 23; with_reducible refine (HC2.out w8 H8.out).mono ?_; rintro e w9 ⟨rfl, h9⟩; have HK4 := Lib.hid (HFD.out w9 h9.bel).wd; have H9 := Lib.hid h9; clear h9))
              all_goals go_wp2_with fail
              all_goals go_roundw
              case rel => exact ⟨k + 1, by omega, by go_num, H9.out⟩
              case measure => simp [intOf]; try omega
            by_cases hk3 : f.kind = 3
            · have hk : f.kind = 3 := hk3
              have k1 : (f.kind == 1) = false := by simp; omega
              have k2 : (f.kind == 2) = false := by simp; omega
              have k3 : (f.kind == 3) = true := by simp; omega
              have h0 := H.out.cut HGT.out
              rw [enc3 hk] at h0
              have hu := Tryd.underlying29
              have hih : (Tryd.prog.info? 29).map (·.size) = some (bts f.h).length := by rw [bts_len, HG1.out]; exact whi_hash
              have hone := bts_one (xs := f.h)
              have hlb : (bts f.h).length = 32 := by rw [bts_len, HG1.out]
              have hld := (HFD.out wr.drew h0.bel).h
              have HC1 := Lib.hid (LI.hash1 HG1.out h0)
              have HC2 := Lib.hid (fun W (h : LI w W g g2 _ _) => LI.hash2 (w := w) (W := W) (g := g) (g2 := g2) (s := encL (L.drop (k + 1))) (t := encL (L.drop (k + 1)) ++ [more]) HG1.out h)
              clear h0
              go_wp2_with fail
              have hkl : k < l.length := by omega
              refine wp_region_held_drew (S := fun w' => w'.rangeAt ba (oa + k * 36 + 3) (bts f.h)) rfl hld (fun hS => ?_)
              refine wpAnyH_take (i := 0) (oi := { dst := some 159, op := Op.move (Operand.tmp 10), type := 44, pos := "law.go:158", after := #[], guard := none }) (v := .pointer (some ⟨g, 0, none⟩)) rfl (by kernel_rfl) (by kernel_rfl) (by kernel_rfl) (fun _ _ _ h => h) (Or.inl ⟨by rfl, fun w hw => rfl⟩) hS ?_
              try simp only [Act.put, List.setIfInBounds_toArray, List.set_cons_zero, List.set_cons_succ]
              refine wpAnyH_take (i := 2) (oi := { dst := some 161, op := Op.move (Operand.tmp 0), type := 22, pos := "law.go:158", after := #[], guard := none }) (v := .slice (some ⟨ba, oa, none⟩) l.length c) rfl (by kernel_rfl) (by kernel_rfl) (by kernel_rfl) (fun _ _ _ h => h) (Or.inl ⟨by rfl, fun w hw => rfl⟩) hS ?_
              try simp only [Act.put, List.setIfInBounds_toArray, List.set_cons_zero, List.set_cons_succ]
              refine wpAnyH_take (i := 3) (oi := { dst := some 162, op := Op.move (Operand.tmp 12), type := 3, pos := "law.go:158", after := #[], guard := none }) (v := .int .i64 (k : Int)) rfl (by kernel_rfl) (by kernel_rfl) (by kernel_rfl) (fun _ _ _ h => h) (Or.inl ⟨by rfl, fun w hw => rfl⟩) hS ?_
              try simp only [Act.put, List.setIfInBounds_toArray, List.set_cons_zero, List.set_cons_succ]
              refine wpAnyH_take (i := 4) (oi := { dst := some 163, op := Op.indexAddr 22 (Operand.tmp 161) (Operand.tmp 162), type := 0, pos := "law.go:158", after := #[{ on := 2, ground := Ground.data }, { on := 3, ground := Ground.data }], guard := none }) (v := .pointer (some ⟨ba, oa + k * 36, none⟩)) rfl (by kernel_rfl) (by kernel_rfl) (by kernel_rfl) (fun _ _ _ h => h) (Or.inl ⟨by rfl, fun w hw => run_fd_ix _ _ rfl ba oa l.length c k rfl rfl hkl⟩) hS ?_
              try simp only [Act.put, List.setIfInBounds_toArray, List.set_cons_zero, List.set_cons_succ]
              refine wpAnyH_take (i := 5) (oi := { dst := some 164, op := Op.fieldAddr 31 (Operand.tmp 163) 3, type := 0, pos := "law.go:158", after := #[{ on := 4, ground := Ground.data }], guard := none }) (v := .pointer (some ⟨ba, oa + k * 36 + 3, none⟩)) rfl (by kernel_rfl) (by kernel_rfl) (by kernel_rfl) (fun _ _ _ h => h) (Or.inl ⟨by rfl, fun w hw => run_fd_h _ rfl ba (oa + k * 36) rfl⟩) hS ?_
              try simp only [Act.put, List.setIfInBounds_toArray, List.set_cons_zero, List.set_cons_succ]
              refine wpAnyH_take (i := 6) (oi := { dst := some 165, op := Op.load 29 (Operand.tmp 164), type := 29, pos := "law.go:158", after := #[{ on := 5, ground := Ground.data }], guard := none }) (v := .agg (bts f.h).toArray) rfl (by kernel_rfl) (by kernel_rfl) (by kernel_rfl) (fun _ _ _ h => h) (yieldsIf_load_mid (by rfl) 29 _ rfl ba (oa + k * 36 + 3) rfl (bts f.h) _ (fun w hw => hw) hu rfl hih) hS ?_
              try simp only [Act.put, List.setIfInBounds_toArray, List.set_cons_zero, List.set_cons_succ]
              refine wpAnyH_ready (rs := [1]) (by kernel_rfl) (by simp) ?_
              refine AllReadyH.cons (o := { dst := some 160, op := Op.call { callee := Callee.value (Operand.func 25), args := #[Operand.tmp 159], argTypes := #[44] }, type := 29, pos := "law.go:158", after := #[{ on := 0, ground := Ground.data }], guard := none }) rfl (fun K hK => ?_) AllReadyH.nil
              go_simp
              go_at_call 25
              with_reducible refine HC1.out.mono ?_
              rintro e w8 ⟨rfl, h8⟩
              have HK3 := Lib.hid (HFD.out w8 h8.bel).h
              have H8 := Lib.hid h8
              clear h8 hld hS
              go_wp2_with fail
              refine hK.out _ _ HK3.out (fun hS => ?_)
              clear hK K
              try simp only [Act.put, List.setIfInBounds_toArray, List.set_cons_zero, List.set_cons_succ]
              refine wpAnyH_take (i := 7) (oi := { dst := some 166, op := Op.binOp BinOp.neq 29 (Operand.tmp 160) (Operand.tmp 165) 29, type := 4, pos := "law.go:158", after := #[{ on := 1, ground := Ground.data }, { on := 6, ground := Ground.data }], guard := none }) (v := .bool false) rfl (by kernel_rfl) (by kernel_rfl) (by kernel_rfl) (fun _ _ _ h => h) (Or.inl ⟨by rfl, fun w hw => (run_bytes_neq 29 5 _ _ _ rfl 32 Tryd.underlying29 Tryd.underlying5 hsz8 hm_hash f.h f.h rfl rfl HG1.out HG1.out).trans (by rw [beq_self_eq_true]; rfl)⟩) hS ?_
              try simp only [Act.put, List.setIfInBounds_toArray, List.set_cons_zero, List.set_cons_succ]
              refine wpAnyH_take (i := 8) (oi := { dst := some 167, op := Op.move (Operand.tmp 166), type := 4, pos := "law.go:158", after := #[{ on := 7, ground := Ground.data }, { on := 1, ground := Ground.chain }], guard := none }) (v := .bool false) rfl (by kernel_rfl) (by kernel_rfl) (by kernel_rfl) (fun _ _ _ h => h) (Or.inl ⟨by rfl, fun w hw => rfl⟩) hS ?_
              try simp only [Act.put, List.setIfInBounds_toArray, List.set_cons_zero, List.set_cons_succ]
              refine wpAnyH_take (i := 9) (oi := { dst := some 168, op := Op.move (Operand.tmp 11), type := 44, pos := "law.go:158", after := #[{ on := 8, ground := Ground.guard }], guard := some (8, false) }) (v := .pointer (some ⟨g2, 0, none⟩)) rfl (by kernel_rfl) (by kernel_rfl) (by kernel_rfl) (fun _ _ _ h => h) (Or.inl ⟨by rfl, fun w hw => rfl⟩) hS ?_
              try simp only [Act.put, List.setIfInBounds_toArray, List.set_cons_zero, List.set_cons_succ]
              refine wpAnyH_take (i := 11) (oi := { dst := some 170, op := Op.move (Operand.tmp 0), type := 22, pos := "law.go:158", after := #[{ on := 8, ground := Ground.guard }], guard := some (8, false) }) (v := .slice (some ⟨ba, oa, none⟩) l.length c) rfl (by kernel_rfl) (by kernel_rfl) (by kernel_rfl) (fun _ _ _ h => h) (Or.inl ⟨by rfl, fun w hw => rfl⟩) hS ?_
              try simp only [Act.put, List.setIfInBounds_toArray, List.set_cons_zero, List.set_cons_succ]
              refine wpAnyH_take (i := 12) (oi := { dst := some 171, op := Op.move (Operand.tmp 12), type := 3, pos := "law.go:158", after := #[{ on := 8, ground := Ground.guard }], guard := some (8, false) }) (v := .int .i64 (k : Int)) rfl (by kernel_rfl) (by kernel_rfl) (by kernel_rfl) (fun _ _ _ h => h) (Or.inl ⟨by rfl, fun w hw => rfl⟩) hS ?_
              try simp only [Act.put, List.setIfInBounds_toArray, List.set_cons_zero, List.set_cons_succ]
              refine wpAnyH_take (i := 13) (oi := { dst := some 172, op := Op.indexAddr 22 (Operand.tmp 170) (Operand.tmp 171), type := 0, pos := "law.go:158", after := #[{ on := 11, ground := Ground.data }, { on := 12, ground := Ground.data }, { on := 8, ground := Ground.guard }], guard := some (8, false) }) (v := .pointer (some ⟨ba, oa + k * 36, none⟩)) rfl (by kernel_rfl) (by kernel_rfl) (by kernel_rfl) (fun _ _ _ h => h) (Or.inl ⟨by rfl, fun w hw => run_fd_ix _ _ rfl ba oa l.length c k rfl rfl hkl⟩) hS ?_
              try simp only [Act.put, List.setIfInBounds_toArray, List.set_cons_zero, List.set_cons_succ]
              refine wpAnyH_take (i := 14) (oi := { dst := some 173, op := Op.fieldAddr 31 (Operand.tmp 172) 3, type := 0, pos := "law.go:158", after := #[{ on := 13, ground := Ground.data }, { on := 8, ground := Ground.guard }], guard := some (8, false) }) (v := .pointer (some ⟨ba, oa + k * 36 + 3, none⟩)) rfl (by kernel_rfl) (by kernel_rfl) (by kernel_rfl) (fun _ _ _ h => h) (Or.inl ⟨by rfl, fun w hw => run_fd_h _ rfl ba (oa + k * 36) rfl⟩) hS ?_
              try simp only [Act.put, List.setIfInBounds_toArray, List.set_cons_zero, List.set_cons_succ]
              refine wpAnyH_take (i := 15) (oi := { dst := some 174, op := Op.load 29 (Operand.tmp 173), type := 29, pos := "law.go:158", after := #[{ on := 14, ground := Ground.data }, { on := 8, ground := Ground.guard }], guard := some (8, false) }) (v := .agg (bts f.h).toArray) rfl (by kernel_rfl) (by kernel_rfl) (by kernel_rfl) (fun _ _ _ h => h) (yieldsIf_load_mid (by rfl) 29 _ rfl ba (oa + k * 36 + 3) rfl (bts f.h) _ (fun w hw => hw) hu rfl hih) hS ?_
              try simp only [Act.put, List.setIfInBounds_toArray, List.set_cons_zero, List.set_cons_succ]
              refine wpAnyH_ready (rs := [10]) (by kernel_rfl) (by simp) ?_
              refine AllReadyH.cons (o := { dst := some 169, op := Op.call { callee := Callee.value (Operand.func 25), args := #[Operand.tmp 168], argTypes := #[44] }, type := 29, pos := "law.go:158", after := #[{ on := 9, ground := Ground.data }, { on := 8, ground := Ground.chain }, { on := 8, ground := Ground.guard }], guard := some (8, false) }) rfl (fun K hK => ?_) AllReadyH.nil
              go_simp
              go_at_call 25
              with_reducible refine (HC2.out w8 H8.out).mono ?_
              rintro e w9 ⟨rfl, h9⟩
              have HK4 := Lib.hid (HFD.out w9 h9.bel).h
              have H9 := Lib.hid h9
              clear h9 hS
              go_wp2_with fail
              refine hK.out _ _ HK4.out (fun hS => ?_)
              clear hK K
              try simp only [Act.put, List.setIfInBounds_toArray, List.set_cons_zero, List.set_cons_succ]
              refine wpAnyH_take (i := 16) (oi := { dst := some 175, op := Op.binOp BinOp.neq 29 (Operand.tmp 169) (Operand.tmp 174) 29, type := 4, pos := "law.go:158", after := #[{ on := 10, ground := Ground.data }, { on := 15, ground := Ground.data }, { on := 8, ground := Ground.guard }], guard := some (8, false) }) (v := .bool false) rfl (by kernel_rfl) (by kernel_rfl) (by kernel_rfl) (fun _ _ _ h => h) (Or.inl ⟨by rfl, fun w hw => (run_bytes_neq 29 5 _ _ _ rfl 32 Tryd.underlying29 Tryd.underlying5 hsz8 hm_hash f.h f.h rfl rfl HG1.out HG1.out).trans (by rw [beq_self_eq_true]; rfl)⟩) hS ?_
              try simp only [Act.put, List.setIfInBounds_toArray, List.set_cons_zero, List.set_cons_succ]
              refine wpAnyH_take (i := 17) (oi := { dst := some 176, op := Op.pick (Operand.tmp 167) (Operand.const (Value.bool true)) (Operand.tmp 175), type := 4, pos := "law.go:158", after := #[{ on := 8, ground := Ground.data }, { on := 16, ground := Ground.data }], guard := none }) (v := .bool false) rfl (by kernel_rfl) (by kernel_rfl) (by kernel_rfl) (fun _ _ _ h => h) (Or.inl ⟨by rfl, fun w hw => rfl⟩) hS ?_
              try simp only [Act.put, List.setIfInBounds_toArray, List.set_cons_zero, List.set_cons_succ]
              refine wpAnyH_done (by kernel_rfl) ?_ _
              clear hS
              all_goals go_wp2_with fail
              all_goals go_roundw
              case rel => exact ⟨k + 1, by omega, by go_num, H9.out⟩
              case measure => simp [intOf]; try omega
            by_cases hk4 : f.kind = 4
            · have hk : f.kind = 4 := hk4
              have k1 : (f.kind == 1) = false := by simp; omega
              have k2 : (f.kind == 2) = false := by simp; omega
              have k3 : (f.kind == 3) = false := by simp; omega
              have k4 : (f.kind == 4) = true := by simp; omega
              have hsz := HTX.out f (List.mem_of_getElem? HGT.out) hk4
              have h0 := H.out.cut HGT.out
              rw [enc4 hk] at h0
              have hld := (HFD.out wr.drew h0.bel).s
              have HC1 := Lib.hid (LI.text1 hsz h0)
              have HC2 := Lib.hid (fun W (h : LI w W g g2 _ _) => LI.text2 (w := w) (W := W) (g := g) (g2 := g2) (s := encL (L.drop (k + 1))) (t := encL (L.drop (k + 1)) ++ [more]) hsz h)
              clear h0
              go_wp2_with fail
              go_region_held3 (fun w' => w'.cell? ⟨ba, oa + k * 36 + 35, none⟩ = some (.string f.s)) (first | exact hld | exact HK3.out | exact HK4.out | go_keep)
                (first
                  | (go_at_call 27; with_reducible refine HC1.out.mono ?_; rintro e w8 ⟨rfl, h8⟩; have HK3 := Lib.hid (HFD.out w8 h8.bel).s; have H8 := Lib.hid h8; clear h8)
                  | (go_at_call 27; with_reducible refine (HC2.out w8 H8.out).mono ?_; rintro e w9 ⟨rfl, h9⟩; have HK4 := Lib.hid (HFD.out w9 h9.bel).s; have H9 := Lib.hid h9; clear h9))
              all_goals go_wp2_with fail
              all_goals go_roundw
              case rel => exact ⟨k + 1, by omega, by go_num, H9.out⟩
              case measure => simp [intOf]; try omega
            · have H5 := Lib.hid (H.out.skip HGT.out (enc0 hk1 hk2 hk3 hk4))
              have k1 : (f.kind == 1) = false := by simp; omega
              have k2 : (f.kind == 2) = false := by simp; omega
              have k3 : (f.kind == 3) = false := by simp; omega
              have k4 : (f.kind == 4) = false := by simp; omega
              go_wp2_with fail
              go_roundw
              case rel => exact ⟨k + 1, by omega, by go_num, H5.out⟩
              case measure => simp [intOf]; try omega
          · obtain rfl : m = k := by omega
            have hdr : L.drop m = [] := List.drop_eq_nil_of_le (by rw [HM.out]; exact Nat.le_refl _)
            have h0 := H.out
            rw [hdr] at h0
            have HX : Hid (LI w wr g g2 [] [more]) := Lib.hid h0
            have HE1 := Lib.hid (mEnd_any g _ wr h0.one)
            clear h0 hdr H
            go_wp2_with fail
            with_reducible refine HE1.out.mono ?_
            rintro e w7 ⟨rfl, hb7⟩
            have HB7 := Lib.hid (HX.out.bel.trans (hb7.mono HX.out.bel.size))
            have HE2 := Lib.hid (mEnd_any g2 _ w7 (HX.out.two.old hb7))
            clear hb7
            go_wp2_with fail
            with_reducible refine HE2.out.mono ?_
            rintro e w8 ⟨rfl, hb8⟩
            have HB8 := Lib.hid (HB7.out.trans (hb8.mono HB7.out.size))
            clear hb8
            go_wp2_with fail
            go_ret
            exact ⟨rfl, HB8.out⟩
      · have e2 : decide ((m : Int) < (l.length : Int)) = false := by simp; omega
        clear e1
        go_wp2_with fail
        with_reducible refine HY.out.mono ?_
        rintro e w3 ⟨v3, rfl, ho3, hb3⟩
        have HB3 := Lib.hid (HB0.out.trans (hb3.mono HB0.out.size))
        obtain ⟨A3, c3, rfl, hlc3, hcm3, hs3, hz3, _⟩ := own8_form ho3
        rw [HNE.out] at hs3 hlc3 ⊢
        have HR := Lib.hid (newReader_any A3 ne c3 E HNE.out w3 (by omega) hs3)
        have HS3 := Lib.hid hs3
        clear ho3 hb3 hs3 HY
        go_wp2_with fail
        with_reducible refine HR.out.mono ?_
        rintro e w4 ⟨g, rfl, hg, hr, hb4⟩
        have HB4 := Lib.hid (HB3.out.trans (hb4.mono HB3.out.size))
        have HGE : Hid (w.heap.size ≤ g) := Lib.hid (Nat.le_trans HB3.out.size hg)
        have HR4 := Lib.hid hr
        have HS4 := Lib.hid ((HS3.out.below hb4).more hb4.size)
        clear hg hr hb4 HR
        go_wp2_with (first
          | (refine wpList_append_sl (w4.alloc (.cells #[] 5)) (by rfl) _ _ 26 (by rfl) w4.heap.size 5 i0 _ 1 1 Tryd.underlying26 hi0 hz0 hz1 hz2 rfl (by omega) (.slice (some ⟨w4.heap.size, 0, none⟩) 0 0) 0 [] (by rfl) (own_zero w4) A3 ne c3 (bts E) (by rfl) ((HS4.out.below (alloc_bel8 w4 _ _)).more (alloc_bel8 w4 _ _).size) bts_one (by unfold maxLen; omega) (by omega) (by simp) ?_; intro v10 w10 ho_ hg_ hv_; have O10 : Hid (w10.ownsRow w4.heap.size 5 1 v10 ne (bts E)) := Lib.hid (by rw [Nat.zero_add, List.nil_append] at ho_; exact ho_); have L10 : Hid (Below w4.heap.size w4 w10) := Lib.hid ((alloc_bel8 w4 _ _).grown hg_ (by simp) (fun k hk => (own_cells (own_zero w4) hk).1)); clear ho_ hg_ hv_)
          | (refine wpList_append_sl (w10.alloc (.cells #[.int .u8 (more.toNat : Int)] 5)) (by rfl) _ _ 26 (by rfl) w4.heap.size 5 i0 _ 1 1 Tryd.underlying26 hi0 hz0 hz1 hz2 rfl (by omega) v10 ne (bts E) (by rfl) (Own8.row_old O10.out (alloc_bel8 w10 _ _)) (some ⟨w10.heap.size, 0, none⟩) 1 1 (bts [more]) (by rfl) (one_sl8 w10 more) bts_one (by unfold maxLen; omega) (by omega) (by have := L10.out.size; simp; omega) ?_; intro v28 w28 ho_ hg_ hv_; have O28 : Hid (w28.ownsRow w4.heap.size 5 1 v28 (ne + 1) (bts (E ++ [more]))) := Lib.hid (by rw [bts_app]; exact ho_); have L28 : Hid (Below w4.heap.size w4 w28) := Lib.hid ((L10.out.trans ((alloc_bel8 w10 _ _).mono L10.out.size)).grown hg_ (Nat.le_trans L10.out.size (alloc_bel8 w10 _ _).size) (fun k hk => (own_cells O10.out hk).1)); clear ho_ hg_ hv_))
        obtain ⟨A5, c5, rfl, hlc5, hcm5, hs5⟩ := own_sl O28.out
        have HR := Lib.hid (newReader_any A5 (ne + 1) c5 (E ++ [more]) (by simp [HNE.out]) w28 (by omega) hs5)
        clear hs5 O28 O10 L10
        go_wp2_with fail
        with_reducible refine HR.out.mono ?_
        rintro e w6 ⟨g2, rfl, hg2, hr2, hb6⟩
        have h46 := L28.out.trans (hb6.mono L28.out.size)
        have HI2 : Hid (LI w w6 g g2 (encL (L.drop 0)) (encL (L.drop 0) ++ [more])) := Lib.hid (by
          rw [List.drop_zero, HE.out]
          exact ⟨HB4.out.trans (h46.mono HB4.out.size), HR4.out.old h46, hr2, HGE.out, Nat.lt_of_lt_of_le HR4.out.lt (Nat.le_trans L28.out.size hg2)⟩)
        clear hg2 hr2 hb6 h46 HR HR4 HS4 HS3 L28
        go_wp2_with fail
        go_loopw [12] (fun i wr => ∃ k : Nat, k ≤ m ∧ i = .int .i64 k ∧ LI w wr g g2 (encL (L.drop k)) (encL (L.drop k) ++ [more])) (fun i _ => m - (intOf i).toNat)
        case atStart => exact ⟨0, by omega, rfl, HI2.out⟩
        case round =>
          obtain ⟨k, hk1, rfl, hi⟩ := hrel
          have H := Lib.hid hi
          clear hi HI2
          by_cases hlt : k < m
          · have e1 : (k : Int) < (l.length : Int) := by omega
            have e2 : (k : Int) < 40 := by omega
            have hk40 : k < 40 := by omega
            obtain ⟨f, hfk⟩ : ∃ f, l[k]? = some f := ⟨_, List.getElem?_eq_getElem (by omega)⟩
            have HGT : Hid (L[k]? = some f) := Lib.hid (by rw [HLK.out k hlt]; exact hfk)
            have HG := Lib.hid (HF.out f (List.mem_of_getElem? hfk))
            obtain ⟨ba, oa, rfl, hfd⟩ := fd_all HS.out HF.out hfk
            have HG1 : Hid (f.h.length = 32) := Lib.hid HG.out.len
            have HFD := Lib.hid hfd
            have hck := (HFD.out wr H.out.bel).kind
            clear hfk hfd
            by_cases hk1 : f.kind = 1
            · have hk : f.kind = 1 := hk1
              have k1 : (f.kind == 1) = true := by simp; omega
              have hgn := HG.out.2.1
              have h0 := H.out.cut HGT.out
              rw [enc1 hk] at h0
              have hld := (HFD.out wr.drew h0.bel).n
              have HC1 := Lib.hid (LI.num1 hgn h0)
              have HC2 := Lib.hid (fun W (h : LI w W g g2 _ _) => LI.num2 (w := w) (W := W) (g := g) (g2 := g2) (s := encL (L.drop (k + 1))) (t := encL (L.drop (k + 1)) ++ [more]) hgn h)
              clear h0
              go_wp2_with fail
              go_region_held3 (fun w' => w'.cell? ⟨ba, oa + k * 36 + 1, none⟩ = some (.int .i64 f.n)) (first | exact hld | exact HK3.out | exact HK4.out | go_keep)
                (first
                  | (go_at_call 21; with_reducible refine HC1.out.mono ?_; rintro e w8 ⟨rfl, h8⟩; have HK3 := Lib.hid (HFD.out w8 h8.bel).n; have H8 := Lib.hid h8; clear h8)
                  | (go_at_call 21; with_reducible refine (HC2.out w8 H8.out).mono ?_; rintro e w9 ⟨rfl, h9⟩; have HK4 := Lib.hid (HFD.out w9 h9.bel).n; have H9 := Lib.hid h9; clear h9))
              all_goals go_wp2_with fail
              all_goals go_roundw
              case rel => exact ⟨k + 1, by omega, by go_num, H9.out⟩
              case measure => simp [intOf]; try omega
            by_cases hk2 : f.kind = 2
            · have hk : f.kind = 2 := hk2
              have k1 : (f.kind == 1) = false := by simp; omega
              have k2 : (f.kind == 2) = true := by simp; omega
              have hgw := (wd_nat HG.out).2
              have ewd := (wd_nat HG.out).1
              have h0 := H.out.cut HGT.out
              rw [enc2 hk] at h0
              have hld := (HFD.out wr.drew h0.bel).wd
              have HC1 := Lib.hid (LI.word1 hgw h0)
              have HC2 := Lib.hid (fun W (h : LI w W g g2 _ _) => LI.word2 (w := w) (W := W) (g := g) (g2 := g2) (s := encL (L.drop (k + 1))) (t := encL (L.drop (k + 1)) ++ [more]) hgw h)
              clear h0
              rw [← ewd] at HC1 HC2
              clear ewd
              go_wp2_with fail
              go_region_held3 (fun w' => w'.cell? ⟨ba, oa + k * 36 + 2, none⟩ = some (.int .u64 f.wd)) (first | exact hld | exact HK3.out | exact HK4.out | go_keep)
                (first
                  | (go_at_call 23; with_reducible refine HC1.out.mono ?_; rintro e w8 ⟨rfl, h8⟩; have HK3 := Lib.hid (HFD.out w8 h8.bel).wd; have H8 := Lib.hid h8; clear h8)
                  | (go_at_call 23; with_reducible refine (HC2.out w8 H8.out).mono ?_; rintro e w9 ⟨rfl, h9⟩; have HK4 := Lib.hid (HFD.out w9 h9.bel).wd; have H9 := Lib.hid h9; clear h9))
              all_goals go_wp2_with fail
              all_goals go_roundw
              case rel => exact ⟨k + 1, by omega, by go_num, H9.out⟩
              case measure => simp [intOf]; try omega
            by_cases hk3 : f.kind = 3
            · have hk : f.kind = 3 := hk3
              have k1 : (f.kind == 1) = false := by simp; omega
              have k2 : (f.kind == 2) = false := by simp; omega
              have k3 : (f.kind == 3) = true := by simp; omega
              have h0 := H.out.cut HGT.out
              rw [enc3 hk] at h0
              have hu := Tryd.underlying29
              have hih : (Tryd.prog.info? 29).map (·.size) = some (bts f.h).length := by rw [bts_len, HG1.out]; exact whi_hash
              have hone := bts_one (xs := f.h)
              have hlb : (bts f.h).length = 32 := by rw [bts_len, HG1.out]
              have hld := (HFD.out wr.drew h0.bel).h
              have HC1 := Lib.hid (LI.hash1 HG1.out h0)
              have HC2 := Lib.hid (fun W (h : LI w W g g2 _ _) => LI.hash2 (w := w) (W := W) (g := g) (g2 := g2) (s := encL (L.drop (k + 1))) (t := encL (L.drop (k + 1)) ++ [more]) HG1.out h)
              clear h0
              go_wp2_with fail
              have hkl : k < l.length := by omega
              refine wp_region_held_drew (S := fun w' => w'.rangeAt ba (oa + k * 36 + 3) (bts f.h)) rfl hld (fun hS => ?_)
              refine wpAnyH_take (i := 0) (oi := { dst := some 159, op := Op.move (Operand.tmp 10), type := 44, pos := "law.go:158", after := #[], guard := none }) (v := .pointer (some ⟨g, 0, none⟩)) rfl (by kernel_rfl) (by kernel_rfl) (by kernel_rfl) (fun _ _ _ h => h) (Or.inl ⟨by rfl, fun w hw => rfl⟩) hS ?_
              try simp only [Act.put, List.setIfInBounds_toArray, List.set_cons_zero, List.set_cons_succ]
              refine wpAnyH_take (i := 2) (oi := { dst := some 161, op := Op.move (Operand.tmp 0), type := 22, pos := "law.go:158", after := #[], guard := none }) (v := .slice (some ⟨ba, oa, none⟩) l.length c) rfl (by kernel_rfl) (by kernel_rfl) (by kernel_rfl) (fun _ _ _ h => h) (Or.inl ⟨by rfl, fun w hw => rfl⟩) hS ?_
              try simp only [Act.put, List.setIfInBounds_toArray, List.set_cons_zero, List.set_cons_succ]
              refine wpAnyH_take (i := 3) (oi := { dst := some 162, op := Op.move (Operand.tmp 12), type := 3, pos := "law.go:158", after := #[], guard := none }) (v := .int .i64 (k : Int)) rfl (by kernel_rfl) (by kernel_rfl) (by kernel_rfl) (fun _ _ _ h => h) (Or.inl ⟨by rfl, fun w hw => rfl⟩) hS ?_
              try simp only [Act.put, List.setIfInBounds_toArray, List.set_cons_zero, List.set_cons_succ]
              refine wpAnyH_take (i := 4) (oi := { dst := some 163, op := Op.indexAddr 22 (Operand.tmp 161) (Operand.tmp 162), type := 0, pos := "law.go:158", after := #[{ on := 2, ground := Ground.data }, { on := 3, ground := Ground.data }], guard := none }) (v := .pointer (some ⟨ba, oa + k * 36, none⟩)) rfl (by kernel_rfl) (by kernel_rfl) (by kernel_rfl) (fun _ _ _ h => h) (Or.inl ⟨by rfl, fun w hw => run_fd_ix _ _ rfl ba oa l.length c k rfl rfl hkl⟩) hS ?_
              try simp only [Act.put, List.setIfInBounds_toArray, List.set_cons_zero, List.set_cons_succ]
              refine wpAnyH_take (i := 5) (oi := { dst := some 164, op := Op.fieldAddr 31 (Operand.tmp 163) 3, type := 0, pos := "law.go:158", after := #[{ on := 4, ground := Ground.data }], guard := none }) (v := .pointer (some ⟨ba, oa + k * 36 + 3, none⟩)) rfl (by kernel_rfl) (by kernel_rfl) (by kernel_rfl) (fun _ _ _ h => h) (Or.inl ⟨by rfl, fun w hw => run_fd_h _ rfl ba (oa + k * 36) rfl⟩) hS ?_
              try simp only [Act.put, List.setIfInBounds_toArray, List.set_cons_zero, List.set_cons_succ]
              refine wpAnyH_take (i := 6) (oi := { dst := some 165, op := Op.load 29 (Operand.tmp 164), type := 29, pos := "law.go:158", after := #[{ on := 5, ground := Ground.data }], guard := none }) (v := .agg (bts f.h).toArray) rfl (by kernel_rfl) (by kernel_rfl) (by kernel_rfl) (fun _ _ _ h => h) (yieldsIf_load_mid (by rfl) 29 _ rfl ba (oa + k * 36 + 3) rfl (bts f.h) _ (fun w hw => hw) hu rfl hih) hS ?_
              try simp only [Act.put, List.setIfInBounds_toArray, List.set_cons_zero, List.set_cons_succ]
              refine wpAnyH_ready (rs := [1]) (by kernel_rfl) (by simp) ?_
              refine AllReadyH.cons (o := { dst := some 160, op := Op.call { callee := Callee.value (Operand.func 25), args := #[Operand.tmp 159], argTypes := #[44] }, type := 29, pos := "law.go:158", after := #[{ on := 0, ground := Ground.data }], guard := none }) rfl (fun K hK => ?_) AllReadyH.nil
              go_simp
              go_at_call 25
              with_reducible refine HC1.out.mono ?_
              rintro e w8 ⟨rfl, h8⟩
              have HK3 := Lib.hid (HFD.out w8 h8.bel).h
              have H8 := Lib.hid h8
              clear h8 hld hS
              go_wp2_with fail
              refine hK.out _ _ HK3.out (fun hS => ?_)
              clear hK K
              try simp only [Act.put, List.setIfInBounds_toArray, List.set_cons_zero, List.set_cons_succ]
              refine wpAnyH_take (i := 7) (oi := { dst := some 166, op := Op.binOp BinOp.neq 29 (Operand.tmp 160) (Operand.tmp 165) 29, type := 4, pos := "law.go:158", after := #[{ on := 1, ground := Ground.data }, { on := 6, ground := Ground.data }], guard := none }) (v := .bool false) rfl (by kernel_rfl) (by kernel_rfl) (by kernel_rfl) (fun _ _ _ h => h) (Or.inl ⟨by rfl, fun w hw => (run_bytes_neq 29 5 _ _ _ rfl 32 Tryd.underlying29 Tryd.underlying5 hsz8 hm_hash f.h f.h rfl rfl HG1.out HG1.out).trans (by rw [beq_self_eq_true]; rfl)⟩) hS ?_
              try simp only [Act.put, List.setIfInBounds_toArray, List.set_cons_zero, List.set_cons_succ]
              refine wpAnyH_take (i := 8) (oi := { dst := some 167, op := Op.move (Operand.tmp 166), type := 4, pos := "law.go:158", after := #[{ on := 7, ground := Ground.data }, { on := 1, ground := Ground.chain }], guard := none }) (v := .bool false) rfl (by kernel_rfl) (by kernel_rfl) (by kernel_rfl) (fun _ _ _ h => h) (Or.inl ⟨by rfl, fun w hw => rfl⟩) hS ?_
              try simp only [Act.put, List.setIfInBounds_toArray, List.set_cons_zero, List.set_cons_succ]
              refine wpAnyH_take (i := 9) (oi := { dst := some 168, op := Op.move (Operand.tmp 11), type := 44, pos := "law.go:158", after := #[{ on := 8, ground := Ground.guard }], guard := some (8, false) }) (v := .pointer (some ⟨g2, 0, none⟩)) rfl (by kernel_rfl) (by kernel_rfl) (by kernel_rfl) (fun _ _ _ h => h) (Or.inl ⟨by rfl, fun w hw => rfl⟩) hS ?_
              try simp only [Act.put, List.setIfInBounds_toArray, List.set_cons_zero, List.set_cons_succ]
              refine wpAnyH_take (i := 11) (oi := { dst := some 170, op := Op.move (Operand.tmp 0), type := 22, pos := "law.go:158", after := #[{ on := 8, ground := Ground.guard }], guard := some (8, false) }) (v := .slice (some ⟨ba, oa, none⟩) l.length c) rfl (by kernel_rfl) (by kernel_rfl) (by kernel_rfl) (fun _ _ _ h => h) (Or.inl ⟨by rfl, fun w hw => rfl⟩) hS ?_
              try simp only [Act.put, List.setIfInBounds_toArray, List.set_cons_zero, List.set_cons_succ]
              refine wpAnyH_take (i := 12) (oi := { dst := some 171, op := Op.move (Operand.tmp 12), type := 3, pos := "law.go:158", after := #[{ on := 8, ground := Ground.guard }], guard := some (8, false) }) (v := .int .i64 (k : Int)) rfl (by kernel_rfl) (by kernel_rfl) (by kernel_rfl) (fun _ _ _ h => h) (Or.inl ⟨by rfl, fun w hw => rfl⟩) hS ?_
              try simp only [Act.put, List.setIfInBounds_toArray, List.set_cons_zero, List.set_cons_succ]
              refine wpAnyH_take (i := 13) (oi := { dst := some 172, op := Op.indexAddr 22 (Operand.tmp 170) (Operand.tmp 171), type := 0, pos := "law.go:158", after := #[{ on := 11, ground := Ground.data }, { on := 12, ground := Ground.data }, { on := 8, ground := Ground.guard }], guard := some (8, false) }) (v := .pointer (some ⟨ba, oa + k * 36, none⟩)) rfl (by kernel_rfl) (by kernel_rfl) (by kernel_rfl) (fun _ _ _ h => h) (Or.inl ⟨by rfl, fun w hw => run_fd_ix _ _ rfl ba oa l.length c k rfl rfl hkl⟩) hS ?_
              try simp only [Act.put, List.setIfInBounds_toArray, List.set_cons_zero, List.set_cons_succ]
              refine wpAnyH_take (i := 14) (oi := { dst := some 173, op := Op.fieldAddr 31 (Operand.tmp 172) 3, type := 0, pos := "law.go:158", after := #[{ on := 13, ground := Ground.data }, { on := 8, ground := Ground.guard }], guard := some (8, false) }) (v := .pointer (some ⟨ba, oa + k * 36 + 3, none⟩)) rfl (by kernel_rfl) (by kernel_rfl) (by kernel_rfl) (fun _ _ _ h => h) (Or.inl ⟨by rfl, fun w hw => run_fd_h _ rfl ba (oa + k * 36) rfl⟩) hS ?_
              try simp only [Act.put, List.setIfInBounds_toArray, List.set_cons_zero, List.set_cons_succ]
              refine wpAnyH_take (i := 15) (oi := { dst := some 174, op := Op.load 29 (Operand.tmp 173), type := 29, pos := "law.go:158", after := #[{ on := 14, ground := Ground.data }, { on := 8, ground := Ground.guard }], guard := some (8, false) }) (v := .agg (bts f.h).toArray) rfl (by kernel_rfl) (by kernel_rfl) (by kernel_rfl) (fun _ _ _ h => h) (yieldsIf_load_mid (by rfl) 29 _ rfl ba (oa + k * 36 + 3) rfl (bts f.h) _ (fun w hw => hw) hu rfl hih) hS ?_
              try simp only [Act.put, List.setIfInBounds_toArray, List.set_cons_zero, List.set_cons_succ]
              refine wpAnyH_ready (rs := [10]) (by kernel_rfl) (by simp) ?_
              refine AllReadyH.cons (o := { dst := some 169, op := Op.call { callee := Callee.value (Operand.func 25), args := #[Operand.tmp 168], argTypes := #[44] }, type := 29, pos := "law.go:158", after := #[{ on := 9, ground := Ground.data }, { on := 8, ground := Ground.chain }, { on := 8, ground := Ground.guard }], guard := some (8, false) }) rfl (fun K hK => ?_) AllReadyH.nil
              go_simp
              go_at_call 25
              with_reducible refine (HC2.out w8 H8.out).mono ?_
              rintro e w9 ⟨rfl, h9⟩
              have HK4 := Lib.hid (HFD.out w9 h9.bel).h
              have H9 := Lib.hid h9
              clear h9 hS
              go_wp2_with fail
              refine hK.out _ _ HK4.out (fun hS => ?_)
              clear hK K
              try simp only [Act.put, List.setIfInBounds_toArray, List.set_cons_zero, List.set_cons_succ]
              refine wpAnyH_take (i := 16) (oi := { dst := some 175, op := Op.binOp BinOp.neq 29 (Operand.tmp 169) (Operand.tmp 174) 29, type := 4, pos := "law.go:158", after := #[{ on := 10, ground := Ground.data }, { on := 15, ground := Ground.data }, { on := 8, ground := Ground.guard }], guard := some (8, false) }) (v := .bool false) rfl (by kernel_rfl) (by kernel_rfl) (by kernel_rfl) (fun _ _ _ h => h) (Or.inl ⟨by rfl, fun w hw => (run_bytes_neq 29 5 _ _ _ rfl 32 Tryd.underlying29 Tryd.underlying5 hsz8 hm_hash f.h f.h rfl rfl HG1.out HG1.out).trans (by rw [beq_self_eq_true]; rfl)⟩) hS ?_
              try simp only [Act.put, List.setIfInBounds_toArray, List.set_cons_zero, List.set_cons_succ]
              refine wpAnyH_take (i := 17) (oi := { dst := some 176, op := Op.pick (Operand.tmp 167) (Operand.const (Value.bool true)) (Operand.tmp 175), type := 4, pos := "law.go:158", after := #[{ on := 8, ground := Ground.data }, { on := 16, ground := Ground.data }], guard := none }) (v := .bool false) rfl (by kernel_rfl) (by kernel_rfl) (by kernel_rfl) (fun _ _ _ h => h) (Or.inl ⟨by rfl, fun w hw => rfl⟩) hS ?_
              try simp only [Act.put, List.setIfInBounds_toArray, List.set_cons_zero, List.set_cons_succ]
              refine wpAnyH_done (by kernel_rfl) ?_ _
              clear hS
              all_goals go_wp2_with fail
              all_goals go_roundw
              case rel => exact ⟨k + 1, by omega, by go_num, H9.out⟩
              case measure => simp [intOf]; try omega
            by_cases hk4 : f.kind = 4
            · have hk : f.kind = 4 := hk4
              have k1 : (f.kind == 1) = false := by simp; omega
              have k2 : (f.kind == 2) = false := by simp; omega
              have k3 : (f.kind == 3) = false := by simp; omega
              have k4 : (f.kind == 4) = true := by simp; omega
              have hsz := HTX.out f (List.mem_of_getElem? HGT.out) hk4
              have h0 := H.out.cut HGT.out
              rw [enc4 hk] at h0
              have hld := (HFD.out wr.drew h0.bel).s
              have HC1 := Lib.hid (LI.text1 hsz h0)
              have HC2 := Lib.hid (fun W (h : LI w W g g2 _ _) => LI.text2 (w := w) (W := W) (g := g) (g2 := g2) (s := encL (L.drop (k + 1))) (t := encL (L.drop (k + 1)) ++ [more]) hsz h)
              clear h0
              go_wp2_with fail
              go_region_held3 (fun w' => w'.cell? ⟨ba, oa + k * 36 + 35, none⟩ = some (.string f.s)) (first | exact hld | exact HK3.out | exact HK4.out | go_keep)
                (first
                  | (go_at_call 27; with_reducible refine HC1.out.mono ?_; rintro e w8 ⟨rfl, h8⟩; have HK3 := Lib.hid (HFD.out w8 h8.bel).s; have H8 := Lib.hid h8; clear h8)
                  | (go_at_call 27; with_reducible refine (HC2.out w8 H8.out).mono ?_; rintro e w9 ⟨rfl, h9⟩; have HK4 := Lib.hid (HFD.out w9 h9.bel).s; have H9 := Lib.hid h9; clear h9))
              all_goals go_wp2_with fail
              all_goals go_roundw
              case rel => exact ⟨k + 1, by omega, by go_num, H9.out⟩
              case measure => simp [intOf]; try omega
            · have H5 := Lib.hid (H.out.skip HGT.out (enc0 hk1 hk2 hk3 hk4))
              have k1 : (f.kind == 1) = false := by simp; omega
              have k2 : (f.kind == 2) = false := by simp; omega
              have k3 : (f.kind == 3) = false := by simp; omega
              have k4 : (f.kind == 4) = false := by simp; omega
              go_wp2_with fail
              go_roundw
              case rel => exact ⟨k + 1, by omega, by go_num, H5.out⟩
              case measure => simp [intOf]; try omega
          · obtain rfl : m = k := by omega
            have hdr : L.drop m = [] := List.drop_eq_nil_of_le (by rw [HM.out]; exact Nat.le_refl _)
            have h0 := H.out
            rw [hdr] at h0
            have HX : Hid (LI w wr g g2 [] [more]) := Lib.hid h0
            have HE1 := Lib.hid (mEnd_any g _ wr h0.one)
            clear h0 hdr H
            go_wp2_with fail
            with_reducible refine HE1.out.mono ?_
            rintro e w7 ⟨rfl, hb7⟩
            have HB7 := Lib.hid (HX.out.bel.trans (hb7.mono HX.out.bel.size))
            have HE2 := Lib.hid (mEnd_any g2 _ w7 (HX.out.two.old hb7))
            clear hb7
            go_wp2_with fail
            with_reducible refine HE2.out.mono ?_
            rintro e w8 ⟨rfl, hb8⟩
            have HB8 := Lib.hid (HB7.out.trans (hb8.mono HB7.out.size))
            clear hb8
            go_wp2_with fail
            go_ret
            exact ⟨rfl, HB8.out⟩
end Go.Proofs.YtclnpglnomfjkaaDoor

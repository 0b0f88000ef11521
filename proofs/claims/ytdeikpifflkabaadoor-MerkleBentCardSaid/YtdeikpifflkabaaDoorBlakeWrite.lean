/- What this text proves: the contracts of a digest's beginning and of its method Write. The conditions are how the state and the bytes lie in memory, and that the package's table is as its text lays it. -/
import Derived.Test.YtdeikpifflkabaaDoorBlakeBlock
namespace Go.Proofs.YtdeikpifflkabaaDoor
open Go.RowKit
set_option linter.unusedVariables false
set_option linter.unusedSimpArgs false

def hNew : List Int := [1779033703 ^^^ 16842784, 0xbb67ae85, 0x3c6ef372, 0xa54ff53a, 0x510e527f, 0x9b05688c, 0x1f83d9ab, 0x5be0cd19].map fun (n : Nat) => (n : Int)
def BSt.new : BSt := ⟨hNew, List.replicate 64 0, 0, 0⟩
theorem BSt.new_ok : BSt.new.ok := ⟨by decide, by decide, by decide, by decide, by decide⟩
def BSt.roots : BSt := ⟨rootsL, List.replicate 64 0, 0, 0⟩
theorem BSt.roots_ok : BSt.roots.ok := ⟨by decide, by decide, by decide, by decide, by decide⟩
theorem made_state : Tryd.prog.built 100 [(0, .agg (u32s rootsL).toArray)] = some BSt.roots.cells.toArray := by kernel_rfl
/-- A state behind one byte more. -/
def fullF (s : BSt) : BSt := if s.n = 64 then { s with done := (s.done + 64) % 18446744073709551616, h := compress s.h s.b ((s.done + 64) % 18446744073709551616) false, n := 0 } else s
def byteF (s : BSt) (c : UInt8) : BSt := { fullF s with b := (fullF s).b.set (fullF s).n c, n := (fullF s).n + 1 }
def writeF (s : BSt) (l : List UInt8) : BSt := l.foldl byteF s
theorem fullF_ok {s : BSt} (h : s.ok) : (fullF s).ok ∧ (fullF s).n < 64 := by
  unfold fullF
  split
  · exact ⟨⟨by simp [compress_len, h.h], h.b, by simp, by simp; omega, by simp; omega⟩, by simp⟩
  · rename_i hn
    exact ⟨h, by have := h.n; omega⟩
theorem byteF_ok {s : BSt} {c : UInt8} (h : s.ok) : (byteF s c).ok := by
  obtain ⟨⟨h1, h2, h3, h4, h5⟩, hn⟩ := fullF_ok h
  exact ⟨h1, by simp [byteF, h2], by simp only [byteF]; omega, h4, h5⟩
theorem writeF_ok {s : BSt} : ∀ {l : List UInt8}, s.ok → (writeF s l).ok := by
  intro l
  induction l generalizing s with
  | nil => exact id
  | cons c l ih => exact fun h => ih (byteF_ok h)
theorem writeF_append (s : BSt) (l m : List UInt8) : writeF (writeF s l) m = writeF s (l ++ m) := by simp [writeF]

/-- Bytes that are read, in another block than gs. -/
def Src (w : World) (gs : Nat) (A : Option Addr) (l : List UInt8) : Prop := 0 < l.length → ∃ b off, A = some ⟨b, off, none⟩ ∧ b ≠ gs ∧ ∀ j u, (bts l)[j]? = some u → w.cell? ⟨b, off + j, none⟩ = some u
theorem Src.moves {w w' : World} {gs : Nat} {A : Option Addr} {l : List UInt8} (h : Src w gs A l) (hm : Moves (fun k _ => k = gs) w w') : Src w' gs A l := fun hl => by
  obtain ⟨b, off, e, hb, hc⟩ := h hl
  exact ⟨b, off, e, hb, fun j u hu => hm.cell (hc j u hu) (fun o _ => hb)⟩
theorem Src.of_sl {w : World} {B gs : Nat} {A : Option Addr} {l : List UInt8} (h : Sl w B 1 A l.length (bts l)) (hg : B ≤ gs) : Src w gs A l := fun hl => by
  obtain ⟨b, off, e, hb, hc⟩ := h.2 hl
  exact ⟨b, off, e, by omega, hc⟩

set_option maxRecDepth 100000 in
set_option maxHeartbeats 2000000 in
theorem new_any (w : World) (hr : Roots w) :
    Calls Tryd.prog 43 #[] w fun e w' => ∃ gs, e = .returned (.pointer (some ⟨gs, 0, none⟩)) ∧ w.heap.size ≤ gs ∧ Bk w' gs 100 BSt.new.cells.toArray ∧ Below w.heap.size w w' := by
  have hR' : w.rangeAt 0 0 (u32s rootsL) := hr
  have lr : (u32s rootsL).length = 8 := by rw [u32s_len]; rfl
  go_enter Tryd.func43, Tryd.ntmps43
  go_upto_region 2 with (first
    | (refine wpList_val (by rfl) (run_load_seg 97 _ (by with_reducible rfl) 0 0 (by rfl) _ hR' 8 lr _ Tryd.underlying97 (by rfl) hi_u8w) ?_)
    | (refine wpList_val (by rfl) (run_build_at 100 _ (by with_reducible rfl) BSt.roots.cells (by exact made_state)) ?_))
  have hB1 := Bk.new w 100 BSt.roots.cells.toArray
  have hb1 : Below w.heap.size w (w.alloc (.cells BSt.roots.cells.toArray 100)) := (by (first | assumption | (repeat (first | exact Below.refl _ _ | assumption | apply Below.drew | apply below_drewN | (refine Below.setCell ?_ (by (try simp) <;> omega) _) | (refine Below.alloc ?_ (by (try simp) <;> omega) _)))))
  obtain ⟨gs, hgs⟩ : ∃ x, w.heap.size = x := ⟨_, rfl⟩
  obtain ⟨w1, hw1⟩ : ∃ x, w.alloc (.cells BSt.roots.cells.toArray 100) = x := ⟨_, rfl⟩
  rw [hw1] at hB1 hb1 ⊢
  rw [hgs] at hB1 ⊢
  clear hw1
  with_reducible refine wp_still_tail 9 (by kernel_rfl) (by kernel_rfl) fun we hwe => ?_
  simp only [List.take_succ_cons, List.take_zero, List.drop_succ_cons, List.drop_zero]
  have hBe : Bk we gs 100 BSt.roots.cells.toArray := by rw [hwe]; exact hB1.drew
  have hbe : Below w.heap.size w we := by rw [hwe]; exact hb1.drew
  clear hwe hB1 hb1
  have hx : we.cell? ⟨gs, 0, none⟩ = some (.int .u32 1779033703) := bst_h hBe (i := 0) (by decide)
  have fz := hBe.frozen 0
  have HBe := Lib.hid hBe
  have Hbe := Lib.hid hbe
  clear hBe hbe
  repeat still_step
  with_reducible refine wpStill_nil ?_
  go_wp2_with fail
  go_ret
  refine ⟨gs, rfl, Nat.le_of_eq hgs, ?_, ?_⟩
  · have := bst_set_h HBe.out (i := 0) (by decide) (bits .xor .u32 1779033703 16842784)
    exact this
  · exact Hbe.out.setCell (by simp only; omega) _

set_option maxRecDepth 100000 in
set_option maxHeartbeats 4000000 in
theorem write_any (gs : Nat) (s : BSt) (A : Option Addr) (l : List UInt8) (c : Nat) (w : World) (hs : s.ok) (hb : Bk w gs 100 s.cells.toArray) (hr : Roots w) (h0 : 0 < gs) (hl : l.length ≤ maxLen) (hA : Src w gs A l) :
    Calls Tryd.prog 44 #[.pointer (some ⟨gs, 0, none⟩), .slice A l.length c] w fun e w' => e = .returned (.tuple #[]) ∧ Bk w' gs 100 (writeF s l).cells.toArray ∧ Moves (fun k _ => k = gs) w w' := by
  unfold maxLen at hl
  have HS := Lib.hid hA
  have HB := Lib.hid hb
  have HR := Lib.hid hr
  clear hA hb hr
  go_enter Tryd.func44, Tryd.ntmps44
  go_wp2_with fail
  go_loopw [10] (fun i wr => ∃ (k : Nat) (t : BSt), k ≤ l.length ∧ i = .int .i64 k ∧ writeF s l = writeF t (l.drop k) ∧ t.ok ∧ Bk wr gs 100 t.cells.toArray ∧ Moves (fun k _ => k = gs) w wr) (fun i _ => l.length - (intOf i).toNat)
  case atStart => exact ⟨0, s, by omega, rfl, rfl, hs, HB.out, Moves.refl _ _⟩
  case round =>
    obtain ⟨k, t, hk, rfl, hw, hok, hbk, hmv⟩ := hrel
    have HW := Lib.hid hw
    have HM := Lib.hid hmv
    have HBt := Lib.hid hbk
    clear hw hmv hbk
    by_cases hlt : k < l.length
    · obtain ⟨c', hc⟩ : ∃ c, l[k]? = some c := ⟨_, List.getElem?_eq_getElem hlt⟩
      have hlt' : (k : Int) < (l.length : Int) := by omega
      obtain ⟨b, off, rfl, hbg, hcell⟩ := (HS.out.moves HM.out) (by omega)
      have hcv := hcell k (.int .u8 (c'.toNat : Int)) (by rw [bts, List.getElem?_map, hc]; rfl)
      have HD : Hid (writeF t (l.drop k) = writeF (byteF t c') (l.drop (k + 1))) := Lib.hid (by rw [drop_at hc]; rfl)
      have hn72 := (bst_out HBt.out hok).2.2.1
      clear hc hcell
      obtain ⟨u, hu⟩ : ∃ u, fullF t = u := ⟨_, rfl⟩
      have huok := (fullF_ok hok).1
      have hun := (fullF_ok hok).2
      rw [hu] at huok hun
      have hby : byteF t c' = { u with b := u.b.set u.n c', n := u.n + 1 } := by rw [← hu]; rfl
      have HBY := Lib.hid hby
      clear hby
      have key : ∃ x : Nat, x = 0 := ⟨_, rfl⟩
      by_cases hn : t.n = 64
      case' pos =>
        have en : ((t.n : Int) == 64) = true := by simp [hn]
        have hd73 := (bst_out HBt.out hok).2.2.2
        have fz := HBt.out.frozen 73
        obtain ⟨D, hD⟩ : ∃ D, IntKind.u64.wrap (t.done + 64) = D := ⟨_, rfl⟩
        have hDm : (t.done + 64) % 18446744073709551616 = D := hD
        have hu2 : ({ t with done := D, h := compress t.h t.b D false, n := 0 } : BSt) = u := by rw [← hu]; simp only [fullF]; rw [if_pos hn, hDm]
        have hDb : 0 ≤ D ∧ D < 18446744073709551616 := by omega
        have HU2 := Lib.hid hu2
        have t1 : BSt.ok { t with done := D } := ⟨hok.h, hok.b, hok.n, hDb.1, hDb.2⟩
        have H1 := Lib.hid (bst_set_done HBt.out hok D)
        have M1 := Lib.hid (HM.out.trans_ (Moves.setCell (X := fun k _ => k = gs) wr ⟨gs, 73, none⟩ (.int .u64 D) (fun _ _ => rfl)) (fun _ _ _ h => h))
        have HN := Lib.hid hn
        clear hn hu hu2 hDb hDm
        go_upto_region 6 with fail
        try rw [hD]
        obtain ⟨w1, hw1⟩ : ∃ x, wr.setCell ⟨gs, 73, none⟩ (.int .u64 D) = x := ⟨_, rfl⟩
        rw [hw1] at H1 M1 ⊢
        clear hw1 hD
        have R1 : Hid (Roots w1) := Lib.hid (rangeAt_moves HR.out M1.out (fun _ => by omega))
        go_wp2_with fail
        with_reducible refine (block_any gs { t with done := D } false w1 t1 H1.out R1.out h0).mono ?_
        rintro e w2 ⟨rfl, hb2, hm2⟩
        have t2 : BSt.ok { t with done := D, h := compress t.h t.b D false } := ⟨by simp [compress_len, hok.h], hok.b, hok.n, t1.d0, t1.d1⟩
        have H2 : Hid (Bk w2 gs 100 (BSt.cells { t with done := D, h := compress t.h t.b D false }).toArray) := Lib.hid hb2
        have M2 := Lib.hid (M1.out.trans_ hm2 (fun _ _ _ h => h))
        have c72 := (bst_out H2.out t2).2.2.1
        have fy := H2.out.frozen 72
        clear hb2 hm2
        have H3 := Lib.hid (bst_set_n H2.out t2 0)
        have M3 := Lib.hid (M2.out.trans_ (Moves.setCell (X := fun k _ => k = gs) w2 ⟨gs, 72, none⟩ (.int .i64 ((0 : Nat) : Int)) (fun _ _ => rfl)) (fun _ _ _ h => h))
        go_upto_region 8 with fail
        have e0 : w2.setCell ⟨gs, 72, none⟩ (.int .i64 0) = w2.setCell ⟨gs, 72, none⟩ (.int .i64 ((0 : Nat) : Int)) := rfl
        rw [e0]
        obtain ⟨wq, hwq⟩ : ∃ x, w2.setCell ⟨gs, 72, none⟩ (.int .i64 ((0 : Nat) : Int)) = x := ⟨_, rfl⟩
        rw [hwq] at H3 M3 ⊢
        have HQ : Hid (Bk wq gs 100 u.cells.toArray) := Lib.hid (by rw [← HU2.out]; exact H3.out)
        have MQ : Hid (Moves (fun k _ => k = gs) w wq) := M3
        clear hwq e0 H3 M3 c72 fy H2 M2 t2 t1 R1 H1 M1 en hd73 fz HU2 HN
      case' neg =>
        have en : ((t.n : Int) == 64) = false := by simp; omega
        go_upto_region 8 with fail
        obtain ⟨wq, hwq⟩ : ∃ x, wr = x := ⟨_, rfl⟩
        have hu3 : t = u := by rw [← hu]; simp only [fullF]; rw [if_neg hn]
        have HQ : Hid (Bk wq gs 100 u.cells.toArray) := Lib.hid (by rw [← hu3, ← hwq]; exact HBt.out)
        have MQ : Hid (Moves (fun k _ => k = gs) w wq) := Lib.hid (by rw [← hwq]; exact HM.out)
        rw [hwq]
        clear hwq hu3 hn hu en
      all_goals
        clear key hn72 hok HBt HM
        with_reducible refine wp_still_tail 9 (by kernel_rfl) (by kernel_rfl) fun we hwe => ?_
        simp only [List.take_succ_cons, List.take_zero, List.drop_succ_cons, List.drop_zero]
        have He : Hid (Bk we gs 100 u.cells.toArray) := Lib.hid (by rw [hwe]; exact HQ.out.drew)
        have Me : Hid (Moves (fun k _ => k = gs) w we) := Lib.hid (by rw [hwe]; exact MQ.out.trans_ (Moves.drew _ _) (fun _ _ _ h => h))
        clear hwe
        have c72 := (bst_out He.out huok).2.2.1
        obtain ⟨n, hn⟩ : ∃ n, u.n = n := ⟨_, rfl⟩
        rw [hn] at c72 hun HBY
        have hn64 : (n : Int) < 64 := by omega
        have fz := He.out.frozen (8 + n)
        have cb : ∃ v, we.cell? ⟨gs, 8 + n, none⟩ = some v := ⟨_, (bst_out He.out huok).2.1 n _ (List.getElem?_eq_getElem (by rw [bts_len, huok.b]; exact hun))⟩
        obtain ⟨vb, hvb⟩ := cb
        have HNn := Lib.hid hn
        clear hn
        repeat still_step
        with_reducible refine wpStill_nil ?_
        have H4 := Lib.hid (bst_set_b He.out huok hun c')
        have M4 := Lib.hid (Me.out.trans_ (Moves.setCell (X := fun k _ => k = gs) we ⟨gs, 8 + n, none⟩ (.int .u8 (c'.toNat : Int)) (fun _ _ => rfl)) (fun _ _ _ h => h))
        clear c72
        go_upto_region 9 with fail
        obtain ⟨wf, hwf⟩ : ∃ x, we.setCell ⟨gs, 8 + n, none⟩ (.int .u8 (c'.toNat : Int)) = x := ⟨_, rfl⟩
        rw [hwf] at H4 M4 ⊢
        clear hwf fz hvb
        have u4 : BSt.ok { u with b := u.b.set n c' } := ⟨huok.h, by simp [huok.b], huok.n, huok.d0, huok.d1⟩
        have c72 : wf.cell? ⟨gs, 72, none⟩ = some (.int .i64 (n : Int)) := by rw [← HNn.out]; exact (bst_out H4.out u4).2.2.1
        have fz := H4.out.frozen 72
        have H5 := Lib.hid (bst_set_n H4.out u4 (n + 1))
        have M5 := Lib.hid (M4.out.trans_ (Moves.setCell (X := fun k _ => k = gs) wf ⟨gs, 72, none⟩ (.int .i64 ((n + 1 : Nat) : Int)) (fun _ _ => rfl)) (fun _ _ _ h => h))
        go_upto_region 10 with fail
        rw [show (n : Int) + 1 = ((n + 1 : Nat) : Int) from by omega]
        obtain ⟨wz, hwz⟩ : ∃ x, wf.setCell ⟨gs, 72, none⟩ (.int .i64 ((n + 1 : Nat) : Int)) = x := ⟨_, rfl⟩
        rw [hwz] at H5 M5 ⊢
        clear hwz c72 fz
        have hby := HBY.out
        have hbok : (byteF t c').ok := by rw [hby]; exact ⟨huok.h, by simp [huok.b], by simp only; omega, huok.d0, huok.d1⟩
        have H6 : Hid (Bk wz gs 100 (byteF t c').cells.toArray) := Lib.hid (by rw [hby]; exact H5.out)
        have HOK := Lib.hid hbok
        clear hby hbok
        go_wp2_with fail
        go_roundw
        case rel => exact ⟨k + 1, byteF t c', by omega, by go_num, by rw [HW.out, HD.out], HOK.out, H6.out, M5.out⟩
        case measure => simp [intOf]; omega
    · obtain rfl : k = l.length := by omega
      have hfin : writeF s l = t := by rw [HW.out, List.drop_length]; rfl
      go_wp2_with fail
      go_end0
      exact ⟨rfl, by rw [hfin]; exact HBt.out, HM.out⟩
end Go.Proofs.YtdeikpifflkabaaDoor

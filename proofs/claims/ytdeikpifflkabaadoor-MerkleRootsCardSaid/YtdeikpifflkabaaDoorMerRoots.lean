/- What this text proves: the walk of the statement MerkleRoots: it returns true. The conditions: how its arguments lie in memory; that the package's table is as its text lays it. -/
import Derived.Test.YtdeikpifflkabaaDoorMerRefProve
import Derived.Test.YtdeikpifflkabaaDoorMerAlive
namespace Go.Proofs.YtdeikpifflkabaaDoor
open Go.RowKit Go.Shelf
set_option linter.unusedVariables false
set_option linter.unusedSimpArgs false

theorem ent_info : (Tryd.prog.info? 31).map (fun i => (i.zero, i.size, i.bytes)) = some (some (.agg #[.string ⟨#[]⟩, .string ⟨#[]⟩]), 2, 32) := by kernel_rfl
theorem eCells_one (l : List Ent) : ∀ u ∈ eCells l, u.oneCell' = true := fun u hu => by
  unfold eCells at hu
  obtain ⟨e, _, h⟩ := List.mem_flatMap.1 hu
  simp at h
  rcases h with rfl | rfl <;> rfl

/-- What is proved: how many entries, the error, which of them. -/
def ProveE (l : List Ent) (key : ByteArray) (n : Nat) (js : List Nat) (s ex : Int) : Prop := (ascK l = true ∧ s = (n : Int) ∧ ex = 0 ∧ ∃ i, LowK l key i ∧ js = idxs n i (foundK l key i)) ∨ (ascK l = false ∧ s = 0 ∧ ex = 51 ∧ js = [])
theorem prove_all (A : Option Addr) (l : List Ent) (n : Nat) (hn : l.length = n) (c : Nat) (key : ByteArray) (w : World) (hl : n ≤ 70) (hf : Fits l) (hr : Roots w) (h0 : 0 < w.heap.size) (hA : Sl w w.heap.size 2 A l.length (eCells l)) :
    Calls Tryd.prog 18 #[.slice A n c, .string key] w fun e w' => ∃ js s ex ps P c', ProveE l key n js s ex ∧ PartsOf l ps js ∧ e = .returned (.tuple #[.agg #[.int .i64 s, .slice P ps.length c'], .int .i64 ex]) ∧ PartsIn w.heap.size ps (.slice P ps.length c') w' ∧ Below w.heap.size w w' := by
  cases has : ascK l with
  | true =>
    refine (prove_any A l n hn c key w hl hf has hr h0 hA).mono ?_
    rintro e w' ⟨i, ps, P, c', h1, h2, h3, h4, h5⟩
    exact ⟨_, _, _, ps, P, c', .inl ⟨has, rfl, rfl, i, h1, rfl⟩, h2, h3, h4, h5⟩
  | false =>
    refine (prove_bad A l n hn c key w hl hf has hA).mono ?_
    rintro e w' ⟨h1, h2⟩
    exact ⟨_, _, _, [], none, 0, .inr ⟨has, rfl, rfl, rfl⟩, trivial, h1, PartsIn.nil _ _, h2⟩
theorem rprove_all (A : Option Addr) (l : List Ent) (n : Nat) (hn : l.length = n) (c : Nat) (key : ByteArray) (js : List Nat) (s ex : Int) (hp : ProveE l key n js s ex) (w : World) (hl : n ≤ 70) (hc : n ≤ c) (hcm : c ≤ maxLen) (hf : Fits l) (hA : Sl w w.heap.size 2 A l.length (eCells l)) :
    Calls Tryd.prog 19 #[.slice A n c, .string key] w fun e w' => ∃ ps P c', PartsOf l ps js ∧ e = .returned (.tuple #[.agg #[.int .i64 s, .slice P ps.length c'], .int .i64 ex]) ∧ PartsIn w.heap.size ps (.slice P ps.length c') w' ∧ Below w.heap.size w w' := by
  rcases hp with ⟨has, rfl, rfl, i, hlow, rfl⟩ | ⟨has, rfl, rfl, rfl⟩
  · exact rprove_any A l n hn c key i hlow w hl hc hcm hf has hA
  · refine (rprove_bad A l n hn c key w hl hf has hA).mono ?_
    rintro e w' ⟨h1, h2⟩
    exact ⟨[], none, 0, trivial, h1, PartsIn.nil _ _, h2⟩
theorem run_sh {o : Oper} {a : Act} {w : World} (x y : Operand) (ty : TypeId) (ho : o.op = .binOp .eql 26 x y ty) (p : List UInt8) (hx : a.eval x = .agg (bts p).toArray) (hy : a.eval y = .agg (bts p).toArray) (hp : p.length = 32) :
    (execOp a.eval o).run Tryd.prog w = .ok (.value (.bool true)) w := by
  have h := run_eqh (w := w) x y ty ho p p hx hy hp hp
  rwa [show (p == p) = true by simp] at h
theorem PartsIn.row_sl {N0 : Nat} {ps : List PartV} {P : Option Addr} {c : Nat} {W : World} (h : PartsIn N0 ps (.slice P ps.length c) W) : Sl W W.heap.size 4 P ps.length (pCells ps) := by
  obtain ⟨P', cc, e, _, _, hs⟩ := own_sl h.row
  injection e with e1
  rw [e1]
  exact hs

attribute [local irreducible] digF
set_option maxRecDepth 100000 in
set_option maxHeartbeats 8000000 in
theorem roots_any (A : Option Addr) (l : List Ent) (n : Nat) (hn : l.length = n) (c : Nat) (key : ByteArray) (w : World) (hr : Roots w) (h0 : 0 < w.heap.size) (hlc : n ≤ c) (hcm : c ≤ maxLen) (hA : Sl w w.heap.size 2 A l.length (eCells l)) :
    Calls Tryd.prog 5 #[.slice A n c, .string key] w fun e w' => e = .returned (.bool true) ∧ Below w.heap.size w w' := by
  have hzh := zero_hash
  have h0l : (bts hash0).length = 32 := by rw [bts_len, hash0_len]
  have HR := Lib.hid hr
  have HA := Lib.hid hA
  have HN := Lib.hid hn
  have HCM := Lib.hid hcm
  have hAl := Lib.hid fun W (hb : Below w.heap.size w W) => alive_any W (hr.below hb h0) (Nat.lt_of_lt_of_le h0 hb.size)
  have hF1 := few_any A l c w (by omega) hA
  rw [hn] at hF1
  have HF1 := Lib.hid hF1
  clear hr hA hcm hF1 hn
  go_enter Tryd.func5, Tryd.ntmps5
  go_wp2_with fail
  with_reducible refine HF1.out.mono ?_
  rintro e w1 ⟨b1, rfl, hb1, hB1⟩
  have B2 := Lib.hid hB1
  have F1 := Lib.hid hb1
  clear hB1 hb1 HF1
  cases b1 with
  | false =>
    go_wp2_with fail
    with_reducible refine (hAl.out _ B2.out).mono ?_
    rintro e w3 ⟨rfl, hb3⟩
    go_wp2_with fail
    go_ret
    exact ⟨rfl, B2.out.trans (hb3.mono B2.out.size)⟩
  | true =>
  obtain ⟨hl7, hfl⟩ := F1.out rfl
  have FL := Lib.hid hfl
  clear hfl F1
  obtain ⟨i0, hii, hz0, hz1, hz2⟩ := info_parts ent_info
  have OWN := Lib.hid (World.ownsRow_made (base := w1.heap.size) (e := 31) (size := 2) w1 #[] 0 (Nat.le_refl _) (by unfold maxLen; omega) (by simp))
  have hb1 : Below w1.heap.size w1 (w1.alloc (.cells #[] 31)) := (by (first | assumption | (repeat (first | exact Below.refl _ _ | assumption | apply Below.drew | apply below_drewN | (refine Below.setCell ?_ (by (try simp) <;> omega) _) | (refine Below.alloc ?_ (by (try simp) <;> omega) _)))))
  have SLA : Hid (Sl (w1.alloc (.cells #[] 31)) (w1.alloc (.cells #[] 31)).heap.size 2 A n (eCells l)) := Lib.hid (by
    have h := ((HA.out.below B2.out).below (hb1.mono B2.out.size)).more (Nat.le_trans B2.out.size hb1.size)
    rw [HN.out] at h
    exact h)
  have HB1 := Lib.hid hb1
  clear hb1
  go_upto_region 5 with (refine wpList_append_sl _ (by rfl) _ _ 22 (by rfl) w1.heap.size 31 i0 _ 2 32 Tryd.underlying22 hii hz0 hz1 hz2 rfl (by omega) (.slice (some ⟨w1.heap.size, 0, none⟩) 0 0) 0 [] (by rfl) OWN.out A n c (eCells l) (by rfl) SLA.out (eCells_one l) (by unfold maxLen; omega) (by omega) HB1.out.size ?_; intro v2 w2 ho_ hg_ hv_; have O2 := Lib.hid ho_; have G2 := Lib.hid hg_; clear ho_ hg_ hv_)
  have ho := O2.out
  rw [Nat.zero_add, List.nil_append] at ho
  obtain ⟨A2, c2, rfl, hn2, hm2, hs2⟩ := own_sl ho
  have HC2 := Lib.hid (And.intro hn2 hm2)
  have B3 : Hid (Below w.heap.size w w2) := Lib.hid ((B2.out.trans (HB1.out.mono B2.out.size)).grown G2.out (Nat.le_trans B2.out.size HB1.out.size) (fun k hk => by have := B2.out.size; have := (own_cells OWN.out hk).1; omega))
  have HA2 : Hid (∀ W, Below w2.heap.size w2 W → Sl W W.heap.size 2 A2 l.length (eCells l)) := Lib.hid (fun W h => by rw [HN.out]; exact (hs2.below h).more h.size)
  clear hn2 hm2 hs2 ho O2 G2 OWN HB1 SLA
  obtain ⟨J, hJ⟩ : ∃ J, rootV l = J := ⟨_, rfl⟩
  obtain ⟨J, ev⟩ := J
  have hJl : J.length = 32 := by have := rootV_32 l; rw [hJ] at this; exact this
  have hbl : (bts J).length = 32 := by rw [bts_len, hJl]
  have HC1 := Lib.hid (show Calls Tryd.prog 12 #[.slice A2 n c2] w2 fun e w' => e = .returned (.tuple #[.agg (bts J).toArray, .int .i64 ev]) ∧ Below w2.heap.size w2 w' from by
    have h := Root_any A2 l c2 w2 (by rw [HN.out]; exact hl7) FL.out (HR.out.below B3.out h0) (Nat.lt_of_lt_of_le h0 B3.out.size) (HA2.out w2 (Below.refl _ _))
    rwa [hJ, HN.out] at h)
  have HC2 := Lib.hid (show ∀ W, Below w.heap.size w W → Calls Tryd.prog 17 #[.slice A n c] W fun e w' => e = .returned (.tuple #[.agg (bts J).toArray, .int .i64 ev]) ∧ Below W.heap.size W w' from fun W hW => by
    have h := rRoot_any A l c W (by rw [HN.out]; exact hl7) (by rw [HN.out]; exact hlc) HCM.out FL.out ((HA.out.below hW).more hW.size)
    rwa [hJ, HN.out] at h)
  clear hJ
  go_wp2_with fail
  with_reducible refine HC1.out.mono ?_
  rintro e w5 ⟨rfl, hb5⟩
  have B5 := Lib.hid (B3.out.trans (hb5.mono B3.out.size))
  have HB5 := Lib.hid hb5
  clear hb5 HC1
  go_upto_region 6 with (refine wpList_puts (by rfl) 26 _ _ (by with_reducible rfl) _ 0 (by rfl) (bts J) (by rfl) 26 (bts hash0) (by exact Bk.new _ _ _) 32 hbl (by rw [h0l]; omega) hi_hash bts_all ?_; intro w6 hb_ hm_ hz_; rw [put_hash0 _ hJl] at hb_; have KH6 := Lib.hid hb_; have M6 := Lib.hid hm_; clear hb_ hm_ hz_)
  have b56 : Below w5.heap.size w5 w6 := ((Below.refl w5.heap.size w5).alloc (Nat.le_refl _) (.cells (bts hash0).toArray 26)).trans (M6.out.to_below (by simp) (fun k o e => by rw [e]; exact Nat.le_refl _))
  have B6 := Lib.hid (B5.out.trans (b56.mono B5.out.size))
  have HB6 := Lib.hid (HB5.out.trans (b56.mono HB5.out.size))
  have KA6 := KH6.out
  obtain ⟨ga, hga⟩ : ∃ g, w5.heap.size = g := ⟨_, rfl⟩
  rw [hga] at KA6 ⊢
  have KA := Lib.hid KA6
  clear KA6 KH6 M6 B5 HB5 hga b56
  go_wp2_with fail
  with_reducible refine (HC2.out w6 B6.out).mono ?_
  rintro e w7 ⟨rfl, hb7⟩
  have B7 := Lib.hid (B6.out.trans (hb7.mono B6.out.size))
  have HB7 := Lib.hid (HB6.out.trans (hb7.mono HB6.out.size))
  have KA7 := Lib.hid (KA.out.below hb7 KA.out.lt)
  clear hb7 HC2 B6 HB6 KA
  go_upto_region 7 with (refine wpList_puts (by rfl) 26 _ _ (by with_reducible rfl) _ 0 (by rfl) (bts J) (by rfl) 26 (bts hash0) (by exact Bk.new _ _ _) 32 hbl (by rw [h0l]; omega) hi_hash bts_all ?_; intro w8 hb_ hm_ hz_; rw [put_hash0 _ hJl] at hb_; have KH8 := Lib.hid hb_; have M8 := Lib.hid hm_; clear hb_ hm_ hz_)
  have b78 : Below w7.heap.size w7 w8 := ((Below.refl w7.heap.size w7).alloc (Nat.le_refl _) (.cells (bts hash0).toArray 26)).trans (M8.out.to_below (by simp) (fun k o e => by rw [e]; exact Nat.le_refl _))
  have B8 := Lib.hid (B7.out.trans (b78.mono B7.out.size))
  have HB8 := Lib.hid (HB7.out.trans (b78.mono HB7.out.size))
  have KA8 := Lib.hid (KA7.out.below b78 KA7.out.lt)
  have KB8 := KH8.out
  obtain ⟨gb, hgb⟩ : ∃ g, w7.heap.size = g := ⟨_, rfl⟩
  rw [hgb] at KB8 ⊢
  have KB := Lib.hid KB8
  clear KB8 KH8 M8 B7 HB7 KA7 hgb b78
  have HPR := Lib.hid (prove_all A2 l n HN.out c2 key w8 hl7 FL.out (HR.out.below B8.out h0) (Nat.lt_of_lt_of_le h0 B8.out.size) (HA2.out w8 HB8.out))
  go_wp2_with fail
  with_reducible refine HPR.out.mono ?_
  rintro e w9 ⟨js, s, ex, ps, P, c', hpe, hof, rfl, hin, hb9⟩
  have B9 := Lib.hid (B8.out.trans (hb9.mono B8.out.size))
  have HB9 := Lib.hid (HB8.out.trans (hb9.mono HB8.out.size))
  have KA9 := Lib.hid (KA8.out.below hb9 KA8.out.lt)
  have KB9 := Lib.hid (KB.out.below hb9 KB.out.lt)
  have HIN := Lib.hid hin
  have HOF := Lib.hid hof
  have HPE := Lib.hid hpe
  have hm2 : ps.length ≤ 2 := by
    rw [hof.len]
    rcases hpe with ⟨_, _, _, i, _, rfl⟩ | ⟨_, _, _, rfl⟩
    · exact idxs_len _ _ _
    · simp
  obtain ⟨m, hm⟩ : ∃ m, ps.length = m := ⟨_, rfl⟩
  have HM := Lib.hid hm
  rw [hm] at hm2 ⊢
  clear hb9 HPR B8 HB8 KA8 KB hin hof hpe hm
  go_upto_region 8 with fail
  have KP := Bk.new w9 38 #[.int .i64 s, .slice P m c']
  have b9a : Below w9.heap.size w9 (w9.alloc (.cells #[.int .i64 s, .slice P m c'] 38)) := (by (first | assumption | (repeat (first | exact Below.refl _ _ | assumption | apply Below.drew | apply below_drewN | (refine Below.setCell ?_ (by (try simp) <;> omega) _) | (refine Below.alloc ?_ (by (try simp) <;> omega) _)))))
  obtain ⟨wa, hwa⟩ : ∃ W, w9.alloc (.cells #[.int .i64 s, .slice P m c'] 38) = W := ⟨_, rfl⟩
  obtain ⟨gc, hgc⟩ : ∃ g, w9.heap.size = g := ⟨_, rfl⟩
  rw [hwa] at KP b9a ⊢
  have Ba := Lib.hid (B9.out.trans (b9a.mono B9.out.size))
  have HBa := Lib.hid (HB9.out.trans (b9a.mono HB9.out.size))
  have KAa := Lib.hid (KA9.out.below b9a KA9.out.lt)
  have KBa := Lib.hid (KB9.out.below b9a KB9.out.lt)
  have HINa := Lib.hid (HIN.out.below b9a)
  rw [hgc] at KP ⊢
  have KPa := Lib.hid KP
  clear hwa hgc KP b9a B9 HB9 KA9 KB9 HIN
  have HPQ := Lib.hid (rprove_all A l n HN.out c key js s ex HPE.out wa hl7 hlc HCM.out FL.out ((HA.out.below Ba.out).more Ba.out.size))
  go_wp2_with fail
  with_reducible refine HPQ.out.mono ?_
  rintro e wb ⟨qs, Q, d', hof', rfl, hin', hbb⟩
  have Bb := Lib.hid (Ba.out.trans (hbb.mono Ba.out.size))
  have HBb := Lib.hid (HBa.out.trans (hbb.mono HBa.out.size))
  have KAb := Lib.hid (KAa.out.below hbb KAa.out.lt)
  have KBb := Lib.hid (KBa.out.below hbb KBa.out.lt)
  have KPb := Lib.hid (KPa.out.below hbb KPa.out.lt)
  have HINb := Lib.hid (HINa.out.below hbb)
  have HINq := Lib.hid hin'
  have HOFq := Lib.hid hof'
  have hqm : qs.length = m := by rw [hof'.len, ← HOF.out.len, HM.out]
  have HQM := Lib.hid hqm
  rw [hqm]
  clear hbb HPQ Ba HBa KAa KBa KPa HINa hin' hof' hqm
  go_upto_region 9 with fail
  have KQ := Bk.new wb 38 #[.int .i64 s, .slice Q m d']
  have bbc : Below wb.heap.size wb (wb.alloc (.cells #[.int .i64 s, .slice Q m d'] 38)) := (by (first | assumption | (repeat (first | exact Below.refl _ _ | assumption | apply Below.drew | apply below_drewN | (refine Below.setCell ?_ (by (try simp) <;> omega) _) | (refine Below.alloc ?_ (by (try simp) <;> omega) _)))))
  obtain ⟨wc, hwc⟩ : ∃ W, wb.alloc (.cells #[.int .i64 s, .slice Q m d'] 38) = W := ⟨_, rfl⟩
  obtain ⟨gd, hgd⟩ : ∃ g, wb.heap.size = g := ⟨_, rfl⟩
  rw [hwc] at KQ bbc ⊢
  have Bc := Lib.hid (Bb.out.trans (bbc.mono Bb.out.size))
  have HBc := Lib.hid (HBb.out.trans (bbc.mono HBb.out.size))
  have KAc := Lib.hid (KAb.out.below bbc KAb.out.lt)
  have KBc := Lib.hid (KBb.out.below bbc KBb.out.lt)
  have kpc := KPb.out.below bbc KPb.out.lt
  have HINc := Lib.hid (HINb.out.below bbc)
  have HINqc := Lib.hid (HINq.out.below bbc)
  rw [hgd] at KQ ⊢
  have p0 := kpc.cell 0
  have p1 := kpc.cell 1
  have q0 := KQ.cell 0
  have q1 := KQ.cell 1
  have HSM := Lib.hid (same_any s ps qs m HM.out HQM.out (by omega) P Q c' d' wc (fun k p q hp hq => PartsOf.alike HOF.out HOFq.out hp hq) (HINc.out.good HOF.out (by rw [HN.out]; exact hl7)) (HINqc.out.good HOFq.out (by rw [HN.out]; exact hl7)) HINc.out.row_sl HINqc.out.row_sl)
  clear hwc hgd KQ bbc kpc Bb HBb KAb KBb KPb HINb HINq
  go_wp2_with fail
  with_reducible refine HSM.out.mono ?_
  rintro e wd ⟨rfl, hbd⟩
  have Bd := Lib.hid (Bc.out.trans (hbd.mono Bc.out.size))
  have HBd := Lib.hid (HBc.out.trans (hbd.mono HBc.out.size))
  have KAd := Lib.hid (KAc.out.below hbd KAc.out.lt)
  have KBd := Lib.hid (KBc.out.below hbd KBc.out.lt)
  clear hbd HSM p0 p1 q0 q1 Bc HBc KAc KBc HINc HINqc
  go_wp2_with fail
  go_loopw [16] (fun s wr => ∃ k : Nat, k ≤ n ∧ s = .int .i64 k ∧ Below wd.heap.size wd wr) (fun s _ => n - (intOf s).toNat)
  case atStart => exact ⟨0, by omega, rfl, Below.refl _ _⟩
  case round =>
    obtain ⟨k, hk, rfl, hbel⟩ := hrel
    have BR := Lib.hid (Bd.out.trans (hbel.mono Bd.out.size))
    have HBR := Lib.hid (HBd.out.trans (hbel.mono HBd.out.size))
    have HBL := Lib.hid hbel
    clear hbel
    by_cases hlt : k < n
    · have hlt' : (k : Int) < (n : Int) := by omega
      obtain ⟨b, off, pk, pv, rfl, hb, hc0, hc1, hla⟩ := HA.out.ent (k := k) (by have := HN.out; omega)
      obtain ⟨b2, off2, pk2, pv2, e2, hb2, hd0, hd1, hla2⟩ := (HA2.out wr HBR.out).ent (k := k) (by have := HN.out; omega)
      rw [hla] at hla2
      injection hla2 with hla2
      injection hla2 with e3 e4
      subst e3
      subst e4
      subst e2
      have a0 := (BR.out.cell (p := ⟨b, off + k * 2, none⟩) hb).trans hc0
      have a1 := (BR.out.cell (p := ⟨b, off + k * 2 + 1, none⟩) hb).trans hc1
      have E0 := ent_neq pk pv pk pv
      rw [decide_eq_true (p := (pk, pv) = (pk, pv)) rfl, Bool.not_true] at E0
      clear hc0 hc1 hla
      go_wp2_with fail
      go_quiet (fail)
      go_wp2_with fail
      go_roundw
      case rel => exact ⟨k + 1, by omega, by go_num, by have hbel := HBL.out; (first | assumption | (repeat (first | exact Below.refl _ _ | assumption | apply Below.drew | apply below_drewN | (refine Below.setCell ?_ (by (try simp) <;> omega) _) | (refine Below.alloc ?_ (by (try simp) <;> omega) _))))⟩
      case measure => simp [intOf]; omega
    · obtain rfl : k = n := by omega
      have KAr := Lib.hid (KAd.out.below HBL.out KAd.out.lt)
      have KBr := Lib.hid (KBd.out.below HBL.out KBd.out.lt)
      go_wp2_with fail
      with_reducible refine (hAl.out _ BR.out).mono ?_
      rintro e we ⟨rfl, hbe⟩
      have Be := Lib.hid (BR.out.trans (hbe.mono BR.out.size))
      have HBe := Lib.hid (HBR.out.trans (hbe.mono HBR.out.size))
      have KAe := Lib.hid (KAr.out.below hbe KAr.out.lt)
      have KBe := Lib.hid (KBr.out.below hbe KBr.out.lt)
      obtain ⟨sA, hsA⟩ : ∃ x, ascK l = x := ⟨_, rfl⟩
      have HRT := Lib.hid (show Calls Tryd.prog 10 #[.slice A2 k c2] we fun e w' => e = .returned (.bool sA) ∧ Below we.heap.size we w' from by
        have h := right_any A2 l c2 we (by rw [HN.out]; exact hl7) FL.out (HA2.out we HBe.out)
        rwa [hsA, HN.out] at h)
      have HRR := Lib.hid (show ∀ W, Below w.heap.size w W → Calls Tryd.prog 21 #[.slice A k c] W fun e w' => e = .returned (.bool sA) ∧ Below W.heap.size W w' from fun W hW => by
        have h := rright_any A l c W (by rw [HN.out]; exact hl7) FL.out ((HA.out.below hW).more hW.size)
        rwa [hsA, HN.out] at h)
      clear hbe BR HBR KAr KBr hsA
      go_wp2_with fail
      with_reducible refine HRT.out.mono ?_
      rintro e wf ⟨rfl, hbf⟩
      have Bf := Lib.hid (Be.out.trans (hbf.mono Be.out.size))
      have KAf := Lib.hid (KAe.out.below hbf KAe.out.lt)
      have KBf := Lib.hid (KBe.out.below hbf KBe.out.lt)
      clear hbf HRT Be KAe KBe
      go_wp2_with fail
      with_reducible refine (HRR.out wf Bf.out).mono ?_
      rintro e wg ⟨rfl, hbg⟩
      have Bg := Lib.hid (Bf.out.trans (hbg.mono Bf.out.size))
      have KAg := Lib.hid (KAf.out.below hbg KAf.out.lt)
      have KBg := Lib.hid (KBf.out.below hbg KBf.out.lt)
      clear hbg HRR Bf KAf KBf
      go_wp2_with (first
        | (refine wpList_val (by rfl) (run_ldh _ (by with_reducible rfl) ga 0 (by rfl) J hJl (by exact KAg.out.all)) ?_)
        | (refine wpList_val (by rfl) (run_ldh _ (by with_reducible rfl) gb 0 (by rfl) J hJl (by exact KBg.out.all)) ?_)
        | (refine wpList_val (by rfl) (run_sh _ _ _ (by with_reducible rfl) J (by rfl) (by rfl) hJl) ?_))
      go_ret
      exact ⟨by simp, Bg.out⟩
theorem roots_walk (A : Option Addr) (l : List Ent) (c : Nat) (hlc : l.length ≤ c) (hcm : c ≤ maxLen) {w : World} (hA : Sl w w.heap.size 2 A l.length (eCells l)) (key : ByteArray) (_ : World) (hr : Roots w ∧ 0 < w.heap.size) :
    Calls Tryd.prog 5 #[.slice A l.length c, .string key] w fun e w' => e = .returned (.bool true) ∧ Below w.heap.size w w' := roots_any A l l.length rfl c key w hr.1 hr.2 hlc hcm hA
end Go.Proofs.YtdeikpifflkabaaDoor

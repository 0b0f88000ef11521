/- What this text proves: how a state in memory is read and written, field by field. The conditions are that hashes have 32 bytes. -/
import Derived.Test.YtlhnhdkbfkbafaaDoorRound
namespace Go.Proofs.YtlhnhdkbfkbafaaDoor
open Go.RowKit
set_option linter.unusedVariables false
set_option linter.unusedSimpArgs false

section
variable {w w' : World} {g : Nat} {T : TypeId} {s : St} {i : In} {o : Out}
theorem st_out (h : Bk w g T s.cells.toArray) (hs : s.good) :
    w.cell? ⟨g, 0, none⟩ = some (.int .i64 s.round) ∧ w.cell? ⟨g, 1, none⟩ = some (.int .i64 s.step) ∧ w.rangeAt g 2 (bts s.locked) ∧ w.cell? ⟨g, 34, none⟩ = some (.int .i64 s.lr) ∧ w.rangeAt g 35 (bts s.valid) ∧ w.cell? ⟨g, 67, none⟩ = some (.int .i64 s.vr) ∧
    w.rangeAt g 68 (bts s.block) ∧ w.cell? ⟨g, 100, none⟩ = some (.int .i64 s.waits) ∧ w.cell? ⟨g, 101, none⟩ = some (.int .i64 s.waited) := by
  obtain ⟨h1, h2, h3⟩ := hs
  refine ⟨h.at_ 0 [] _ _ rfl rfl, h.at_ 1 [.int .i64 s.round] _ _ rfl rfl, h.seg 2 [.int .i64 s.round, .int .i64 s.step] _ _ rfl rfl, ?_, ?_, ?_, ?_, ?_, ?_⟩
  · exact h.at_ 34 (.int .i64 s.round :: .int .i64 s.step :: bts s.locked) _ _ rfl (by simp [bts_len, h1])
  · exact h.seg 35 (.int .i64 s.round :: .int .i64 s.step :: (bts s.locked ++ [.int .i64 s.lr])) _ (.int .i64 s.vr :: (bts s.block ++ [.int .i64 s.waits, .int .i64 s.waited])) (by simp [St.cells]) (by simp [bts_len, h1])
  · exact h.at_ 67 (.int .i64 s.round :: .int .i64 s.step :: (bts s.locked ++ .int .i64 s.lr :: bts s.valid)) (bts s.block ++ [.int .i64 s.waits, .int .i64 s.waited]) _ (by simp [St.cells]) (by simp [bts_len, h1, h2])
  · exact h.seg 68 (.int .i64 s.round :: .int .i64 s.step :: (bts s.locked ++ .int .i64 s.lr :: (bts s.valid ++ [.int .i64 s.vr]))) _ [.int .i64 s.waits, .int .i64 s.waited] (by simp [St.cells]) (by simp [bts_len, h1, h2])
  · exact h.at_ 100 (.int .i64 s.round :: .int .i64 s.step :: (bts s.locked ++ .int .i64 s.lr :: (bts s.valid ++ .int .i64 s.vr :: bts s.block))) [.int .i64 s.waited] _ (by simp [St.cells]) (by simp [bts_len, h1, h2, h3])
  · exact h.at_ 101 (.int .i64 s.round :: .int .i64 s.step :: (bts s.locked ++ .int .i64 s.lr :: (bts s.valid ++ .int .i64 s.vr :: (bts s.block ++ [.int .i64 s.waits])))) [] _ (by simp [St.cells]) (by simp [bts_len, h1, h2, h3])
theorem in_out (h : Bk w g T i.cells.toArray) (hi : i.fits) :
    w.cell? ⟨g, 0, none⟩ = some (.int .i64 i.kind) ∧ w.cell? ⟨g, 1, none⟩ = some (.int .i64 i.round) ∧ w.rangeAt g 2 (bts i.block) ∧ w.cell? ⟨g, 34, none⟩ = some (.int .i64 i.valid) ∧ w.cell? ⟨g, 35, none⟩ = some (.bool i.good) ∧ w.rangeAt g 36 (bts i.own) := by
  obtain ⟨h1, h2⟩ := hi
  exact ⟨h.at_ 0 [] _ _ rfl rfl, h.at_ 1 [.int .i64 i.kind] _ _ rfl rfl, h.seg 2 [.int .i64 i.kind, .int .i64 i.round] _ _ rfl rfl, h.at_ 34 (.int .i64 i.kind :: .int .i64 i.round :: bts i.block) _ _ rfl (by simp [bts_len, h1]),
    h.at_ 35 (.int .i64 i.kind :: .int .i64 i.round :: (bts i.block ++ [.int .i64 i.valid])) (bts i.own) _ (by simp [In.cells]) (by simp [bts_len, h1]), h.seg 36 (.int .i64 i.kind :: .int .i64 i.round :: (bts i.block ++ [.int .i64 i.valid, .bool i.good])) _ [] (by simp [In.cells]) (by simp [bts_len, h1])⟩
theorem out_out (h : Bk w g T o.cells.toArray) (ho : o.block.length = 32) :
    w.cell? ⟨g, 0, none⟩ = some (.int .i64 o.kind) ∧ w.cell? ⟨g, 1, none⟩ = some (.int .i64 o.round) ∧ w.rangeAt g 2 (bts o.block) ∧ w.cell? ⟨g, 34, none⟩ = some (.int .i64 o.valid) :=
  ⟨h.at_ 0 [] _ _ rfl rfl, h.at_ 1 [.int .i64 o.kind] _ _ rfl rfl, h.seg 2 [.int .i64 o.kind, .int .i64 o.round] _ _ rfl rfl, h.at_ 34 (.int .i64 o.kind :: .int .i64 o.round :: bts o.block) [] _ rfl (by simp [bts_len, ho])⟩

theorem set_round (h : Bk w g T s.cells.toArray) (v : Int) : Bk (w.setCell ⟨g, 0, none⟩ (.int .i64 v)) g T ({s with round := v} : St).cells.toArray := h.list_set 0 [] _ _ _ rfl rfl
theorem set_step (h : Bk w g T s.cells.toArray) (v : Int) : Bk (w.setCell ⟨g, 1, none⟩ (.int .i64 v)) g T ({s with step := v} : St).cells.toArray := h.list_set 1 [.int .i64 s.round] _ _ _ rfl rfl
theorem set_lr (h : Bk w g T s.cells.toArray) (hs : s.good) (v : Int) : Bk (w.setCell ⟨g, 34, none⟩ (.int .i64 v)) g T ({s with lr := v} : St).cells.toArray := h.list_set 34 (.int .i64 s.round :: .int .i64 s.step :: bts s.locked) _ _ _ rfl (by simp [bts_len, hs.locked])
theorem set_vr (h : Bk w g T s.cells.toArray) (hs : s.good) (v : Int) : Bk (w.setCell ⟨g, 67, none⟩ (.int .i64 v)) g T ({s with vr := v} : St).cells.toArray := by
  have := h.list_set 67 (.int .i64 s.round :: .int .i64 s.step :: (bts s.locked ++ .int .i64 s.lr :: bts s.valid)) (bts s.block ++ [.int .i64 s.waits, .int .i64 s.waited]) (.int .i64 s.vr) (.int .i64 v) (by simp [St.cells]) (by simp [bts_len, hs.locked, hs.valid])
  simpa [St.cells] using this
theorem set_waits (h : Bk w g T s.cells.toArray) (hs : s.good) (v : Int) : Bk (w.setCell ⟨g, 100, none⟩ (.int .i64 v)) g T ({s with waits := v} : St).cells.toArray := by
  have := h.list_set 100 (.int .i64 s.round :: .int .i64 s.step :: (bts s.locked ++ .int .i64 s.lr :: (bts s.valid ++ .int .i64 s.vr :: bts s.block))) [.int .i64 s.waited] (.int .i64 s.waits) (.int .i64 v) (by simp [St.cells]) (by simp [bts_len, hs.locked, hs.valid, hs.block])
  simpa [St.cells] using this
theorem set_waited (h : Bk w g T s.cells.toArray) (hs : s.good) (v : Int) : Bk (w.setCell ⟨g, 101, none⟩ (.int .i64 v)) g T ({s with waited := v} : St).cells.toArray := by
  have := h.list_set 101 (.int .i64 s.round :: .int .i64 s.step :: (bts s.locked ++ .int .i64 s.lr :: (bts s.valid ++ .int .i64 s.vr :: (bts s.block ++ [.int .i64 s.waits])))) [] (.int .i64 s.waited) (.int .i64 v) (by simp [St.cells]) (by simp [bts_len, hs.locked, hs.valid, hs.block])
  simpa [St.cells] using this
theorem put_locked {h : List UInt8} (hs : s.good) (hl : h.length = 32) : put s.cells 2 (bts h) = ({s with locked := h} : St).cells := put_mid [.int .i64 s.round, .int .i64 s.step] (bts s.locked) (bts h) _ 2 rfl (by rw [bts_len, bts_len, hs.locked, hl])
theorem put_valid {h : List UInt8} (hs : s.good) (hl : h.length = 32) : put s.cells 35 (bts h) = ({s with valid := h} : St).cells := by
  have := put_mid (.int .i64 s.round :: .int .i64 s.step :: (bts s.locked ++ [.int .i64 s.lr])) (bts s.valid) (bts h) (.int .i64 s.vr :: (bts s.block ++ [.int .i64 s.waits, .int .i64 s.waited])) 35 (by simp [bts_len, hs.locked]) (by rw [bts_len, bts_len, hs.valid, hl])
  simpa [St.cells] using this
theorem put_block {h : List UInt8} (hs : s.good) (hl : h.length = 32) : put s.cells 68 (bts h) = ({s with block := h} : St).cells := by
  have := put_mid (.int .i64 s.round :: .int .i64 s.step :: (bts s.locked ++ .int .i64 s.lr :: (bts s.valid ++ [.int .i64 s.vr]))) (bts s.block) (bts h) [.int .i64 s.waits, .int .i64 s.waited] 68 (by simp [bts_len, hs.locked, hs.valid]) (by rw [bts_len, bts_len, hs.block, hl])
  simpa [St.cells] using this
theorem put_in_block {h : List UInt8} (hi : i.fits) (hl : h.length = 32) : put i.cells 2 (bts h) = ({i with block := h} : In).cells := put_mid [.int .i64 i.kind, .int .i64 i.round] (bts i.block) (bts h) _ 2 rfl (by rw [bts_len, bts_len, hi.block, hl])
end
end Go.Proofs.YtlhnhdkbfkbafaaDoor

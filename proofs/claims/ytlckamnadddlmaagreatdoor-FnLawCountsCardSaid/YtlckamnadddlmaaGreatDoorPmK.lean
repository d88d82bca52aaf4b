import Derived.Test.YtlckamnadddlmaaGreatDoorPmE
import Derived.DeepKeys4
/- The keys of the map of the law of patterns. No condition. -/
namespace Go.Proofs.YtlckamnadddlmaaGreatDoor
open Go.RowKit Go.Maps
set_option linter.unusedVariables false

theorem plLaid : laidOutB Tryz.prog = true := by kernel_rfl
theorem plKL : WideMaps.KeyLaw Tryz.prog 56 := deep_law_laid plLaid (m := 5) (by decide) (of_decide_eq_true (by kernel_rfl)) (by kernel_rfl) (by kernel_rfl)
theorem plK : Keyed Tryz.prog 56 := Keyed.of_law plKL
theorem plSize : ∃ d, Tryz.prog.types.size + 1 = d + 2 := ⟨Tryz.prog.types.size - 1, by have : 1 ≤ Tryz.prog.types.size := of_decide_eq_true (by kernel_rfl); omega⟩
theorem plKT : Tryz.prog.keyType 56 = true := by kernel_rfl
theorem plC : Tryz.prog.cellsOf 56 = 2 := by kernel_rfl
theorem plC1 : Tryz.prog.cellsOf 9 = 1 := by kernel_rfl
theorem plC2 : Tryz.prog.cellsOf 2 = 1 := by kernel_rfl
set_option maxRecDepth 100000 in
theorem keyOf_pl (s : ByteArray) (n : Int) (hs : s.size ≤ maxLen) (hn : (Lit.int .i64 n).wf = true) : keyOf Tryz.prog 56 (.agg #[.string s, .int .i64 n]) = some (.string (keyBytes [.string s.data.toList, .int .i64 n])) := by
  obtain ⟨d, hd⟩ := plSize
  unfold keyOf
  rw [Tryz.underlying56]
  simp only [plKT, hd]
  simp [Value.formed, Tryz.underlying56, plC, Value.cells, Program.keyLits, Tryz.underlying9, Tryz.underlying2, plC1, plC2, hs, hn]
set_option maxRecDepth 100000 in
theorem keyOf_inv {key : Value} {kl : Lit} (h : keyOf Tryz.prog 56 key = some kl) : ∃ x : ByteArray × Int, key = .agg #[.string x.1, .int .i64 x.2] := by
  obtain ⟨d, hd⟩ := plSize
  unfold keyOf at h
  rw [Tryz.underlying56] at h
  simp only [plKT, hd] at h
  cases key <;> simp [Value.formed, Tryz.underlying56, plC] at h
  rename_i cs
  obtain ⟨hs, l, hl, _⟩ := h
  obtain ⟨a, b, rfl⟩ : ∃ a b, cs = #[a, b] := by
    obtain ⟨L⟩ := cs
    match L, hs with
    | [a, b], _ => exact ⟨a, b, rfl⟩
  simp [Value.cells, Program.keyLits, Tryz.underlying56, plC, Tryz.underlying9, Tryz.underlying2, plC1, plC2] at hl
  cases a <;> simp at hl
  rename_i s
  by_cases hsz : s.size ≤ maxLen
  · rw [if_pos hsz] at hl
    cases b <;> simp at hl
    rename_i q n
    by_cases hq : q = .i64 ∧ (Lit.int .i64 n).wf = true
    · obtain ⟨rfl, _⟩ := hq
      exact ⟨(s, n), rfl⟩
    · rw [if_neg hq] at hl
      simp at hl
  · rw [if_neg hsz] at hl
    simp at hl
end Go.Proofs.YtlckamnadddlmaaGreatDoor

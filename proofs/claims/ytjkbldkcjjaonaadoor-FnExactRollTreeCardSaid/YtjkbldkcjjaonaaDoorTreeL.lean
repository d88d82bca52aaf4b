import Derived.Test.YtjkbldkcjjaonaaDoorTree
/- The law FnExactTreeLeaves: what it walks. -/
namespace Go.Proofs.YtjkbldkcjjaonaaDoor
open Go.RowKit
set_option linter.unusedVariables false

theorem lvls_row (ws : List Int) (k d : Nat) (r : Rw) (rs : List Rw) (h : rs.map Rw.zs = lvls ws k d) (hr : r ∈ rs) : r.zs.length ≤ ws.length := by
  have : r.zs ∈ lvls ws k d := by rw [← h]; exact List.mem_map_of_mem hr
  simp only [lvls, List.mem_map] at this
  obtain ⟨j, _, e⟩ := this
  rw [← e]
  exact lvlTo_len _ _ _ _

theorem retTr_no {w w' : World} {ws : List Int} {e : Ending} (h : treeOk ws = false) (hr : RetTr w ws e w') : e = .returned (.tuple #[.slice none 0 0, .bool false]) ∧ Below w.heap.size w w' := by
  rcases hr with h1 | h1
  · exact h1.2
  · rw [h] at h1; cases h1.1
theorem retTr_yes {w w' : World} {ws : List Int} {e : Ending} (h : treeOk ws = true) (hr : RetTr w ws e w') : ∃ go co rs, e = .returned (.tuple #[.slice (some ⟨go, 0, none⟩) rs.length co, .bool true]) ∧ rs.map Rw.zs = treeL ws ∧ OwnAt w w' (llO go co rs) := by
  rcases hr with h1 | h1
  · rw [h] at h1; cases h1.1
  · exact h1.2

end Go.Proofs.YtjkbldkcjjaonaaDoor

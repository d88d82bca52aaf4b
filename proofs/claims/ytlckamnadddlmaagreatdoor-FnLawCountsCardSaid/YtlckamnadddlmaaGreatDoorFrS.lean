import Derived.Test.YtlckamnadddlmaaGreatDoorRejCost
/- Slices of fractions: what is owned as a row of numbers, two a fraction; the laws' helpers on them. -/
namespace Go.Proofs.YtlckamnadddlmaaGreatDoor
open Go.RowKit
set_option linter.unusedVariables false

theorem IsInts.of_own2 {w : World} {B T : Nat} {a : Option Addr} {n cap : Nat} {zs : List Int} (h : w.ownsRow B T 2 (.slice a n cap) n (zs.map (Value.int .i64))) : IsInts w a (n * 2) zs := by
  have hl : zs.length = n * 2 := by simpa using h.1
  refine ⟨by omega, fun j hj => ?_⟩
  rcases h.2 with ⟨e, h0⟩ | ⟨g, c, cur, e, _⟩
  · omega
  · simp only [Value.slice.injEq] at e
    obtain ⟨rfl, _, rfl⟩ := e
    refine ⟨g, 0, rfl, ?_⟩
    have := h.cellAt j (by omega)
    rw [Nat.zero_add, this]
    simp [List.getD, List.getElem?_eq_getElem (show j < zs.length by omega)]
end Go.Proofs.YtlckamnadddlmaaGreatDoor

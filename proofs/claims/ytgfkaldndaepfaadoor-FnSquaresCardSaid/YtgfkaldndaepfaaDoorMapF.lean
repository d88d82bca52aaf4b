import Derived.Test.YtgfkaldndaepfaaDoorBase
import Derived.Maps.Own
import Derived.Maps.OwnOps
import Derived.Maps.OwnSet
import Derived.Maps.Views
/- A map from int64 to uint64 told by a function: plain facts. No condition. -/
namespace Go.Proofs.YtgfkaldndaepfaaDoor
open Go.RowKit Go.Maps
set_option linter.unusedVariables false

/-- The datum D has at each number what f says. -/
def MapF {H : Type} (D : DataW H) (f : Int → Option Int) : Prop :=
  IsMap D ∧ ∀ j : Int, has D (.int .i64 j) = (f j).isSome ∧ ∀ x, f j = some x → ∀ z, D.atKey (.int .i64 j) z = .lit (.int .u64 x)
theorem mapF_empty {H : Type} : MapF (.map [] : DataW H) (fun _ => none) :=
  ⟨isMap_empty, fun j => ⟨rfl, fun x h => by cases h⟩⟩
theorem MapF.put {H : Type} {D : DataW H} {f : Int → Option Int} (h : MapF D f) (k x : Int) (hk : WideAt.IsKeyLit (.int .i64 k)) : MapF (D.put (.int .i64 k) (.lit (.int .u64 x))) (fun j => if j = k then some x else f j) := by
  refine ⟨h.1.put _ _, fun j => ?_⟩
  by_cases e : j = k
  · subst e
    simp only [if_true]
    exact ⟨has_put_same h.1 hk _, fun y hy z => by cases hy; exact atKey_put_same h.1 hk _ _⟩
  · simp only [if_neg e]
    have hne : (Lit.int .i64 j) ≠ .int .i64 k := fun he => e (by injection he)
    rw [has_put_other hne]
    exact ⟨(h.2 j).1, fun y hy z => by rw [atKey_put_other hne]; exact (h.2 j).2 y hy z⟩
end Go.Proofs.YtgfkaldndaepfaaDoor

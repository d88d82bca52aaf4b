import Derived.Test.YtgfkaldndaepfaaDoorOne
/- Weights: sums, ranges of all numbers of a list, and when weights are dyadic, in the program and in the reference. -/
namespace Go.Proofs.YtgfkaldndaepfaaDoor
open Go.RowKit
set_option linter.unusedVariables false

def firstOut (zs : List Int) (lo hi : Int) : Int := match zs.findIdx? (fun z => !inR z lo hi) with | some i => (i : Int) | none => -1
def allR (zs : List Int) (lo hi : Int) : Bool := zs.all (fun z => inR z lo hi)

theorem firstOut_neg (zs : List Int) (lo hi : Int) : decide ((0:Int) ≤ firstOut zs lo hi) = !allR zs lo hi := by
  unfold firstOut
  cases h : zs.findIdx? (fun z => !inR z lo hi) with
  | none =>
    rw [List.findIdx?_eq_none_iff] at h
    have : allR zs lo hi = true := by
      unfold allR; rw [List.all_eq_true]; intro x hx; simpa using h x hx
    simp [this]
  | some i =>
    have h2 := List.findIdx?_eq_some_iff_getElem.1 h
    obtain ⟨hi', hp, _⟩ := h2
    have : allR zs lo hi = false := by
      unfold allR; rw [List.all_eq_false]; exact ⟨zs[i], List.getElem_mem hi', by simpa using hp⟩
    simp only [this]
    simp




end Go.Proofs.YtgfkaldndaepfaaDoor

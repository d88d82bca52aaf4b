import Derived.Test.YtflgooogiceliaaDoorDegr
import Derived.Test.YtflgooogiceliaaDoorWts
/- The width of combined registers: the program's walk, the reference's, and the law FnExactCombinedWidth. Condition: the text is shorter than the model's greatest length. -/
namespace Go.Proofs.YtflgooogiceliaaDoor
open Go.RowKit
set_option linter.unusedVariables false

/-- The product of the widths below j whose bit stands in x. -/
def pdF (zs : List Int) (x : Nat) : Nat → Int
  | 0 => 1
  | j + 1 => if x.testBit j then pdF zs x j * zs.getD j 0 else pdF zs x j
def cwF (g : Nat → Bool) (zs : List Int) : Nat → Int
  | 0 => 0
  | m + 1 => if g m then cwF g zs m + pdF zs m zs.length else cwF g zs m
theorem pow16_le : ∀ j, j < 7 → 1 ≤ (16 : Int) ^ j ∧ (16 : Int) ^ j ≤ 16777216 := by decide +kernel
theorem pdF_bound {zs : List Int} (hz : ∀ j, 0 ≤ zs.getD j 0 ∧ zs.getD j 0 ≤ 16) (x : Nat) : ∀ j, 0 ≤ pdF zs x j ∧ pdF zs x j ≤ (16 : Int) ^ j
  | 0 => by simp [pdF]
  | j + 1 => by
    obtain ⟨h1, h2⟩ := pdF_bound hz x j
    obtain ⟨h3, h4⟩ := hz j
    rw [Int.pow_succ]
    rw [pdF]
    split
    · exact ⟨Int.mul_nonneg h1 h3, Int.mul_le_mul h2 h4 h3 (by omega)⟩
    · generalize (16 : Int) ^ j = P at *
      omega
theorem pdF_le {zs : List Int} (hz : ∀ j, 0 ≤ zs.getD j 0 ∧ zs.getD j 0 ≤ 16) (x j : Nat) (hj : j < 7) : 0 ≤ pdF zs x j ∧ pdF zs x j ≤ 16777216 := by
  have h1 := pdF_bound hz x j
  have h2 := pow16_le j hj
  omega
theorem cwF_bound {zs : List Int} (hz : ∀ j, 0 ≤ zs.getD j 0 ∧ zs.getD j 0 ≤ 16) (hl : zs.length < 7) (g : Nat → Bool) : ∀ m : Nat, 0 ≤ cwF g zs m ∧ cwF g zs m ≤ m * 16777216
  | 0 => by simp [cwF]
  | m + 1 => by
    have h1 := cwF_bound hz hl g m
    have h2 := pdF_le hz m zs.length hl
    rw [cwF]
    split <;> (push_cast; omega)
theorem allR_at {zs : List Int} {lo hi : Int} (h : allR zs lo hi = true) {j : Nat} (hj : j < zs.length) : inR (zs.getD j 0) lo hi = true := by
  unfold allR at h
  rw [List.all_eq_true] at h
  rw [getD_eq _ _ hj]
  exact h _ (List.getElem_mem hj)
theorem allR_16 {zs : List Int} (h : allR zs 0 16 = true) : ∀ j, 0 ≤ zs.getD j 0 ∧ zs.getD j 0 ≤ 16 := by
  intro j
  by_cases hj : j < zs.length
  · have := allR_at h hj
    simpa [inR] using this
  · simp [List.getD, List.getElem?_eq_none (show zs.length ≤ j by omega)]
theorem allR_of {zs : List Int} {lo hi : Int} (h : ∀ j, j < zs.length → inR (zs.getD j 0) lo hi = true) : allR zs lo hi = true := by
  unfold allR
  rw [List.all_eq_true]
  intro x hx
  obtain ⟨j, hj, rfl⟩ := List.getElem_of_mem hx
  have := h j hj
  rw [getD_eq _ _ hj] at this
  exact this
def cwOk (s : ByteArray) (zs : List Int) : Bool := isT s && (((zs.length : Nat) : Int) == inpI s) && allR zs 0 16
def cwV (s : ByteArray) (zs : List Int) : Int := if cwOk s zs then cwF (nfB (bitF s)) zs s.size else 0
theorem cw_no {s : ByteArray} {zs : List Int} (h : cwOk s zs = false) : cwV s zs = 0 := by unfold cwV; rw [h]; rfl
end Go.Proofs.YtflgooogiceliaaDoor

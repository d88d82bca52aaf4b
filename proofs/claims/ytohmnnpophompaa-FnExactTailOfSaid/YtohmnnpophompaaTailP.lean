import Derived.Test.YtohmnnpophompaaLawQ
import Derived.Test.YtohmnnpophompaaRatK
/- Sums of the chances that a test takes, as plain numbers. No condition. -/
namespace Go.Proofs.Ytohmnnpophompaa
open Go.RowKit
set_option linter.unusedVariables false

/-- The sum of the first m chances that a test takes. -/
def pickR (fs : List Int) (q : Nat → Bool) : Nat → Rat
  | 0 => 0
  | m + 1 => if q m then pickR fs q m + frR fs m else pickR fs q m
theorem pick_none {fs : List Int} {q : Nat → Bool} {m : Nat} (h : ∀ k, k < m → q k = false) : pickR fs q m = 0 := by
  induction m with
  | zero => rfl
  | succ m ih => simp [pickR, h m (by omega), ih (fun k hk => h k (by omega))]
theorem pick_split {fs : List Int} {q : Nat → Bool} {j m : Nat} (hj : j ≤ m) (h0 : ∀ k, k < j → q k = false) (h1 : ∀ k, j ≤ k → k < m → q k = true) : sumR fs j + pickR fs q m = sumR fs m := by
  induction m with
  | zero => obtain rfl : j = 0 := by omega
            exact Rat.add_zero _
  | succ m ih =>
    rcases Nat.lt_or_ge m j with h | h
    · obtain rfl : j = m + 1 := by omega
      rw [pick_none h0, Rat.add_zero]
    · have := ih h (fun k h2 h3 => h1 k h2 (by omega))
      simp only [pickR, h1 m h (by omega), if_true, sumR]
      rw [← Rat.add_assoc, this]
theorem left_one {a b : Rat} (h : a + b = 1) : 1 + -a = b := by rw [← h]; grind
theorem frR_bits {fs : List Int} {k : Nat} (h : vF (frN fs k) (frD fs k) = true) : bitsR (frR fs k) 60 := bits_fit (vF_parts h).2.2
theorem pick_bits {fs : List Int} {q : Nat → Bool} {m : Nat} (h : ∀ k, k < m → vF (frN fs k) (frD fs k) = true) : bitsR (pickR fs q m) (61 * m + 1) := by
  induction m with
  | zero => exact bits_zero
  | succ m ih =>
    have h1 := ih (fun k hk => h k (by omega))
    simp only [pickR]
    split
    · exact (bits_add h1 (frR_bits (h m (by omega)))).mono (by omega)
    · exact h1.mono (by omega)
end Go.Proofs.Ytohmnnpophompaa

import Derived.Test.YtgfkaldndaepfaaDoorTable
import Derived.Test.YtgfkaldndaepfaaDoorBfly
import Derived.Test.YtgfkaldndaepfaaDoorBytesRow
import Derived.BigRegion
import Derived.Deep.LoopGhost
/- The normal form of a table. -/
namespace Go.Proofs.YtgfkaldndaepfaaDoor
open Go.RowKit
set_option linter.unusedVariables false

theorem xsum_one {f : Nat → Bool} {p : Nat → Bool} {u : Nat} : ∀ n, (∀ x, x < n → p x = decide (x = u)) → xsum p f n = (decide (u < n) && f u)
  | 0, _ => by simp [xsum]
  | n + 1, h => by
    simp only [xsum]
    rw [xsum_one n (fun x hx => h x (by omega)), h n (by omega)]
    by_cases h1 : u < n
    · have h2 : ¬ n = u := by omega
      have h3 : u < n + 1 := by omega
      simp [h1, h2, h3]
    · by_cases h2 : n = u
      · subst h2; simp
      · have h3 : ¬ u < n + 1 := by omega
        simp [h1, h2, h3]
theorem nf_zero (f : Nat → Bool) (n u : Nat) (hu : u < n) : nfF f n 0 u = f u := by
  unfold nfF
  rw [xsum_one (u := u) n (fun x hx => by
    unfold nfP
    by_cases h : x = u
    · subst h; simp
    · simp [h])]
  simp [hu]
/-- The bytes in the middle of stage j, the places below m done. -/
def nfL (f : Nat → Bool) (n j m : Nat) : List Int := (List.range n).map fun y => 48 + (if (if y < m then nfF f n (j + 1) y else nfF f n j y) then 1 else 0)
theorem nfL_len (f : Nat → Bool) (n j m : Nat) : (nfL f n j m).length = n := by simp [nfL]
theorem nfL_at {f : Nat → Bool} {n j m y : Nat} (hy : y < n) : (nfL f n j m).getD y 0 = 48 + (if (if y < m then nfF f n (j + 1) y else nfF f n j y) then 1 else 0) := by
  rw [getD_eq _ _ (by rw [nfL_len]; exact hy)]
  simp [nfL]
theorem nfL_next (f : Nat → Bool) (n j : Nat) : nfL f n j n = nfL f n (j + 1) 0 := by
  unfold nfL
  apply List.map_congr_left
  intro y hy
  simp only [List.mem_range] at hy
  simp [hy]
theorem nfL_set {f : Nat → Bool} {n j m : Nat} (hm : m < n) : (nfL f n j m).set m (48 + (if nfF f n (j + 1) m then 1 else 0)) = nfL f n j (m + 1) := by
  refine ext_getD (by simp [nfL_len]) fun y hy => ?_
  have hyn : y < n := by simpa [nfL_len] using hy
  rw [nfL_at hyn]
  by_cases h : m = y
  · subst h
    have e : ((nfL f n j m).set m (48 + (if nfF f n (j + 1) m then 1 else 0))).getD m 0 = 48 + (if nfF f n (j + 1) m then 1 else 0) := by simp [List.getD, nfL_len, hm]
    rw [e]
    simp
  · have e : ((nfL f n j m).set m (48 + (if nfF f n (j + 1) m then 1 else 0))).getD y 0 = (nfL f n j m).getD y 0 := by simp [List.getD, h]
    rw [e, nfL_at hyn]
    by_cases h2 : y < m
    · have h3 : y < m + 1 := by omega
      simp [h2, h3]
    · have h3 : ¬ y < m + 1 := by omega
      simp [h2, h3]
end Go.Proofs.YtgfkaldndaepfaaDoor

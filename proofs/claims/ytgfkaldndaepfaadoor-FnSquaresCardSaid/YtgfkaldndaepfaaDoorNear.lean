import Derived.Test.YtgfkaldndaepfaaDoorSpecS
import Derived.Test.YtgfkaldndaepfaaDoorFixed
/- The greatest number of a spectrum and where it stands: the program's walk, the reference's, and the laws FnExactNearestSum, FnExactNonlinearityOf, FnExactBalanceOf. Condition: the text is shorter than the model's greatest length. -/
namespace Go.Proofs.YtgfkaldndaepfaaDoor
open Go.RowKit
set_option linter.unusedVariables false

/-- What stands first with the greatest size among the first m numbers: its place, whether it is below zero, its size. -/
def nrA (L : List Int) : Nat → Nat × Int × Int
  | 0 => (0, 0, -1)
  | m + 1 => if (nrA L m).2.2 < ((L.getD m 0).natAbs : Int) then (m, (if L.getD m 0 < 0 then 1 else 0), ((L.getD m 0).natAbs : Int)) else nrA L m
theorem nrA_ok (L : List Int) (n : Nat) (hL : ∀ m, (L.getD m 0).natAbs ≤ n) : ∀ m, -1 ≤ (nrA L m).2.2 ∧ (nrA L m).2.2 ≤ n ∧ (0 < m → (nrA L m).1 < m ∧ (nrA L m).2.1 = if L.getD (nrA L m).1 0 < 0 then 1 else 0)
  | 0 => by simp [nrA]
  | m + 1 => by
    obtain ⟨h1, h2, h3⟩ := nrA_ok L n hL m
    have h4 := hL m
    by_cases h : (nrA L m).2.2 < ((L.getD m 0).natAbs : Int)
    · have e : nrA L (m + 1) = (m, (if L.getD m 0 < 0 then 1 else 0), ((L.getD m 0).natAbs : Int)) := by rw [nrA, if_pos h]
      rw [e]
      refine ⟨?_, ?_, fun _ => ⟨?_, rfl⟩⟩
      · show (-1 : Int) ≤ ((L.getD m 0).natAbs : Int); omega
      · show ((L.getD m 0).natAbs : Int) ≤ n; omega
      · show m < m + 1; omega
    · have e : nrA L (m + 1) = nrA L m := by rw [nrA, if_neg h]
      rw [e]
      refine ⟨h1, h2, fun _ => ?_⟩
      cases m with
      | zero => exact absurd (show (nrA L 0).2.2 < _ by show (-1 : Int) < _; omega) h
      | succ m => exact ⟨by have := (h3 (by omega)).1; omega, (h3 (by omega)).2⟩
def nrS (s : ByteArray) : Nat × Int × Int := nrA (spS' s) s.size
theorem spS'_abs (s : ByteArray) (m : Nat) : ((spS' s).getD m 0).natAbs ≤ s.size := by
  by_cases h : m < s.size
  · rw [spS'_at h]
    have := csum_le (c := spS m) (f := sgF s) (fun x => spS_1 m x) (sgF_or s) s.size
    omega
  · simp [List.getD, List.getElem?_eq_none (show (spS' s).length ≤ m by rw [spS'_len]; omega)]
/-- A call's answer: three numbers. -/
def Ret3 (w : World) (x y z : Int) (e : Ending) (w' : World) : Prop := e = .returned (.tuple #[.int .i64 x, .int .i64 y, .int .i64 z]) ∧ Below w.heap.size w w'
def nrD (s : ByteArray) : Int := ((s.size : Int) - (nrS s).2.2) / 2
end Go.Proofs.YtgfkaldndaepfaaDoor

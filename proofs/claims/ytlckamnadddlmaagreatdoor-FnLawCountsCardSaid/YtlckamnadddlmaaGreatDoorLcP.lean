import Derived.Test.YtlckamnadddlmaaGreatDoorLcA
import Derived.Test.YtlckamnadddlmaaGreatDoorPat
import Derived.Test.YtlckamnadddlmaaGreatDoorPmS
/- Counts over all texts of few bits, for the law FnLawCounts. Condition: at most 9 bits. -/
namespace Go.Proofs.YtlckamnadddlmaaGreatDoor
open Go.RowKit
set_option linter.unusedVariables false

/-- How many numbers below X have the value v. -/
def cnF (f : Nat → Nat) : Nat → Nat → Nat
  | 0, _ => 0
  | X + 1, v => cnF f X v + if f X = v then 1 else 0
theorem cnF_le (f : Nat → Nat) : ∀ X v, cnF f X v ≤ X
  | 0, _ => Nat.le_refl _
  | X + 1, v => by
    have := cnF_le f X v
    rw [cnF]; split <;> omega
/-- Ones, runs, longest runs, places of a pattern. -/
def lcF (P : ByteArray) (n : Nat) (k X : Nat) : Nat :=
  match k with
  | 0 => oneC (lcS X n) n
  | 1 => (rnL (begS (lcS X n)) n).length
  | 2 => (mxF (rnL (begS (lcS X n)) n) (rnL (begS (lcS X n)) n).length).toNat
  | _ => (cntP (lcS X n) P n).toNat
/-- The counts that the laws are made of. -/
def lcC (P : ByteArray) (n : Nat) (k v : Nat) : Nat :=
  match k, v with
  | 0, v => bin n v
  | 1, 0 => 0
  | 1, v + 1 => 2 * bin (n - 1) v
  | 2, 0 => 0
  | 2, v + 1 => 2 * wy (v + 1) n - 2 * wy v n
  | _, v => (stL (plNx P.data.toList) ([], 0) n).countP (fun s => s.2 == v)
def lcR (P : ByteArray) (n k : Nat) : Bool :=
  decide (sum0 (lcC P n k) (n + 1) = 2 ^ n) && ((List.range (n + 1)).all fun v => decide (cnF (lcF P n k) (2 ^ n) v = lcC P n k v)) && ((List.range (2 ^ n)).all fun X => decide (lcF P n k X ≤ n))
theorem lcB_all : ∀ n, n < 10 → ∀ X, X < 2 ^ n → isB (lcS X n) = true := by decide +kernel
theorem lcR0 : ∀ n, n < 10 → 0 < n → lcR ⟨#[]⟩ n 0 = true := by decide +kernel
theorem lcR1 : ∀ n, n < 10 → 0 < n → lcR ⟨#[]⟩ n 1 = true := by decide +kernel
theorem lcR2 : ∀ n, n < 10 → 0 < n → lcR ⟨#[]⟩ n 2 = true := by decide +kernel
theorem lcR3 : ∀ j, j < 8 → ∀ n, n < 10 → 0 < n → lcR (lcP.getD j ⟨#[]⟩) n 3 = true := by decide +kernel
theorem lcP_ok : ∀ j, j < 8 → patOk (lcP.getD j ⟨#[]⟩) = true := by decide +kernel
theorem lcM_nn : ∀ n, n < 10 → ∀ X, X < 2 ^ n → 0 ≤ mxF (rnL (begS (lcS X n)) n) (rnL (begS (lcS X n)) n).length := by decide +kernel
end Go.Proofs.YtlckamnadddlmaaGreatDoor

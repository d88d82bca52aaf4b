import Derived.Test.YtlckamnadddlmaaGreatDoorOnesX
import Derived.Test.YtlckamnadddlmaaGreatDoorLawOf
/- The laws FnExactOnesLaw and FnExactRunsLaw: for every number both sides answer alike. No condition. -/
namespace Go.Proofs.YtlckamnadddlmaaGreatDoor
open Go.RowKit
set_option linter.unusedVariables false

theorem fairL_len {V : Nat → List Int} (n : Int) (h : ∀ k, k ≤ 50 → (V k).length ≤ 1000) : (fairL V n).length ≤ 1000 := by
  unfold fairL
  cases hr : inR n 1 50 with
  | false => simp
  | true =>
    simp only [inR, Bool.and_eq_true, decide_eq_true_eq] at hr
    exact h n.toNat (by omega)
theorem lawOfC : LawOfC := fun first a len cap cs all w hx hl hf ha ha2 hc => lawOf_any first a len cap cs all w hx hl hf ha ha2 hc
def onV (k : Nat) : List Int := lvT 0 (binR k (k + 1)) (k + 1)
def onF (k : Nat) : List Int := lfT (binR k (k + 1)) (2 ^ k) (k + 1)
def ruV (k : Nat) : List Int := lvT 1 (runR k k) k
def ruF (k : Nat) : List Int := lfT (runR k k) (2 ^ k) k
end Go.Proofs.YtlckamnadddlmaaGreatDoor

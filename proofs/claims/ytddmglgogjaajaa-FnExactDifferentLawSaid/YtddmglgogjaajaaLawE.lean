import Derived.Test.YtddmglgogjaajaaRunsL
import Derived.Test.YtddmglgogjaajaaLawOf
/- The laws FnExactOnesLaw and FnExactRunsLaw: for every number both sides answer alike. No condition. -/
namespace Go.Proofs.Ytddmglgogjaajaa
open Go.RowKit
set_option linter.unusedVariables false

theorem fairL_len {V : Nat → List Int} (n : Int) (h : ∀ k, k ≤ 50 → (V k).length ≤ 1000) : (fairL V n).length ≤ 1000 := by
  unfold fairL
  cases hr : inR n 1 50 with
  | false => simp
  | true =>
    simp only [inR, Bool.and_eq_true, decide_eq_true_eq] at hr
    exact h n.toNat (by omega)
theorem lawOfC : LawOfC := fun first a len cap cs all w hx hl hf ha ha2 hc => lawOf_any first a len cap cs all w hx hl hf ha ha2 hc
def onV (k : Nat) : List Int := lvT 0 (binR k (k + 1)) (k + 1)
def onF (k : Nat) : List Int := lfT (binR k (k + 1)) (2 ^ k) (k + 1)
def ruV (k : Nat) : List Int := lvT 1 (runR k k) k
def ruF (k : Nat) : List Int := lfT (runR k k) (2 ^ k) k
theorem fnExactOnesLaw_walk (n : Int) (w : World) : Calls Try.prog 7 #[.int .i64 n] w fun e w' => e = .returned (.bool true) ∧ Below w.heap.size w w' :=
  fnExactOnesLaw_of n (inR n 1 50) (fairL onV n) (fairL onF n) w (fairL_len n fun k hk => Nat.le_trans (lvT_len _ _ _) (by omega))
    (fun w => topOnesLaw onV onF (fun k w _ h2 => onesLaw_of lawOfC k w h2) n w) (fun w => sTopOnesLaw onV onF (fun k w _ h2 => l05Ones_any k w h2) n w)
theorem fnExactRunsLaw_walk (n : Int) (w : World) : Calls Try.prog 8 #[.int .i64 n] w fun e w' => e = .returned (.bool true) ∧ Below w.heap.size w w' :=
  fnExactRunsLaw_of n (inR n 1 50) (fairL ruV n) (fairL ruF n) w (fairL_len n fun k hk => Nat.le_trans (lvT_len _ _ _) (by omega))
    (fun w => topRunsLaw ruV ruF (fun k w h1 h2 => runsLaw_of lawOfC k w h2 h1) n w) (fun w => sTopRunsLaw ruV ruF (fun k w h1 h2 => l05Runs_any k w h2 h1) n w)
end Go.Proofs.Ytddmglgogjaajaa

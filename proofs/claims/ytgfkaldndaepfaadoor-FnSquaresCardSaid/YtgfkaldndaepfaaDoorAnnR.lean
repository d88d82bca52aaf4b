import Derived.Test.YtgfkaldndaepfaaDoorAnnP
/- A row of bits as a number, made bit by bit: plain facts. No condition. -/
namespace Go.Proofs.YtgfkaldndaepfaaDoor
set_option linter.unusedVariables false

/-- The first t bits of p as a number. -/
def rowT (p : Nat → Bool) : Nat → Nat
  | 0 => 0
  | t + 1 => rowT p t ||| (if p t then 2 ^ t else 0)
theorem rowT_bit (p : Nat → Bool) (x : Nat) : ∀ t, (rowT p t).testBit x = (decide (x < t) && p x)
  | 0 => by simp [rowT]
  | t + 1 => by
    rw [rowT, Nat.testBit_or, rowT_bit p x t]
    by_cases e : x = t
    · subst e
      cases hp : p x <;> simp
    · have h1 : decide (x < t + 1) = decide (x < t) := by
        by_cases h : x < t
        · rw [decide_eq_true h, decide_eq_true (by omega)]
        · rw [decide_eq_false h, decide_eq_false (by omega)]
      have h2 : (if p t then 2 ^ t else 0 : Nat).testBit x = false := by
        cases hp : p t
        · simp
        · simp only [if_true]
          rw [Nat.testBit_two_pow]
          exact decide_eq_false (fun h => e h.symm)
      rw [h1, h2, Bool.or_false]
theorem rowT_lt (p : Nat → Bool) (t : Nat) : rowT p t < 2 ^ t := by
  apply Nat.lt_pow_two_of_testBit
  intro i hi
  rw [rowT_bit, decide_eq_false (by omega), Bool.false_and]
end Go.Proofs.YtgfkaldndaepfaaDoor

import Derived.Test.YtgfkaldndaepfaaDoorBfly
/- The ends of both butterflies, and small facts on bits of numbers below 64: plain facts. No condition. -/
namespace Go.Proofs.YtgfkaldndaepfaaDoor
set_option linter.unusedVariables false

theorem xsum_more {p f : Nat → Bool} {m : Nat} : ∀ n, m ≤ n → (∀ x, m ≤ x → x < n → p x = false) → xsum p f n = xsum p f m
  | 0, h, _ => by obtain rfl : m = 0 := by omega
                  rfl
  | n + 1, h, hp => by
    by_cases he : m = n + 1
    · subst he; rfl
    · simp only [xsum]
      rw [xsum_more n (by omega) (fun x h1 h2 => hp x h1 (by omega)), hp n (by omega) (by omega)]
      simp
/-- The value of the normal form at u. -/
def nfB (f : Nat → Bool) (u : Nat) : Bool := xsum (fun x => x &&& u == x) f (u + 1)
theorem and_le_fact : ∀ u, u < 64 → ∀ x, x < 64 → (x &&& u == x) = true → x ≤ u := by decide +kernel
theorem shift_zero : ∀ k, k < 7 → ∀ x, x < 2 ^ k → x >>> k = 0 := by
  intro k hk x hx
  rw [Nat.shiftRight_eq_div_pow]
  exact Nat.div_eq_of_lt hx
theorem pow_le_64 : ∀ k, k < 7 → 2 ^ k ≤ 64 := by decide
theorem nf_end (f : Nat → Bool) {k u : Nat} (hk : k < 7) (hu : u < 2 ^ k) : nfF f (2 ^ k) k u = nfB f u := by
  have h64 := pow_le_64 k hk
  unfold nfF nfB
  rw [xsum_congr (q := fun x => x &&& u == x) (2 ^ k) (fun x hx => by
    unfold nfP
    rw [shift_zero k hk x hx, shift_zero k hk u hu]
    simp)]
  refine xsum_more (2 ^ k) (by omega) fun x h1 h2 => ?_
  cases h : (x &&& u == x) with
  | false => rfl
  | true => have := and_le_fact u (by omega) x (by omega) h; omega

/-- The sign with which x stands in the spectrum at a. -/
def spS (a x : Nat) : Int := if par6 (a &&& x) then -1 else 1
theorem mask_all : ∀ k, k < 7 → ∀ m, m < 2 ^ k → m &&& (2 ^ k - 1) = m := by decide +kernel
theorem sp_end (f : Nat → Int) {k a : Nat} (hk : k < 7) (ha : a < 2 ^ k) : spF f (2 ^ k) k a = csum (spS a) f (2 ^ k) := by
  unfold spF
  refine csum_congr (2 ^ k) fun x hx => ?_
  unfold spC spS
  rw [shift_zero k hk x hx, shift_zero k hk a ha, mask_all k hk (x &&& a) (Nat.and_lt_two_pow _ ha), Nat.and_comm]
  simp
theorem spC_le (j a x : Nat) : -1 ≤ spC j a x ∧ spC j a x ≤ 1 := by
  unfold spC
  split
  · split <;> omega
  · omega
theorem spS_le (a x : Nat) : spS a x = 1 ∨ spS a x = -1 := by
  unfold spS
  split
  · exact Or.inr rfl
  · exact Or.inl rfl
theorem csum_le {c f : Nat → Int} (hc : ∀ x, -1 ≤ c x ∧ c x ≤ 1) (hf : ∀ x, f x = 1 ∨ f x = -1) : ∀ n : Nat, -(n : Int) ≤ csum c f n ∧ csum c f n ≤ n
  | 0 => by simp [csum]
  | n + 1 => by
    have h := csum_le hc hf n
    simp only [csum]
    have h1 := hc n
    rcases hf n with h2 | h2
    · rw [h2]; constructor <;> (push_cast; omega)
    · rw [h2]; constructor <;> (push_cast; omega)
theorem spF_zero (f : Nat → Int) (n a : Nat) (ha : a < n) : spF f n 0 a = f a := by
  unfold spF
  have : ∀ m, m ≤ n → csum (spC 0 a) f m = if a < m then f a else 0 := by
    intro m
    induction m with
    | zero => intro _; rfl
    | succ m ih =>
      intro hm
      simp only [csum]
      rw [ih (by omega)]
      unfold spC
      simp only [Nat.shiftRight_zero, Nat.pow_zero, Nat.sub_self, Nat.and_zero]
      have hp : par6 0 = false := by decide
      rw [hp]
      by_cases h1 : a < m
      · have h2 : ¬ m = a := by omega
        have h3 : a < m + 1 := by omega
        simp [h1, h2, h3]
      · by_cases h2 : m = a
        · subst h2; simp
        · have h3 : ¬ a < m + 1 := by omega
          simp [h1, h2, h3]
  rw [this n (Nat.le_refl n), if_pos ha]
/-- How many bits of a number below 64 are 1. -/
def pop6 (m : Nat) : Nat := (if m.testBit 0 then 1 else 0) + (if m.testBit 1 then 1 else 0) + (if m.testBit 2 then 1 else 0) + (if m.testBit 3 then 1 else 0) + (if m.testBit 4 then 1 else 0) + (if m.testBit 5 then 1 else 0)
theorem pop6_step : ∀ m, m < 64 → pop6 m = m % 2 + pop6 (m / 2) ∧ pop6 m ≤ 6 := by decide +kernel
theorem par6_step : ∀ m, m < 64 → par6 m = xor (m % 2 == 1) (par6 (m / 2)) := by decide +kernel
theorem par6_pop : ∀ m, m < 64 → par6 m = (pop6 m % 2 == 1) := by decide +kernel
end Go.Proofs.YtgfkaldndaepfaaDoor

/- The numbers of ways to choose, by Pascal's rule: plain facts. No condition. -/
namespace Go.Proofs.Ytddmglgogjaajaa
set_option linter.unusedVariables false

def bin : Nat → Nat → Nat
  | _, 0 => 1
  | 0, _ + 1 => 0
  | n + 1, k + 1 => bin n k + bin n (k + 1)
theorem bin_zero (n : Nat) : bin n 0 = 1 := by cases n <;> rfl
theorem bin_big : ∀ {n k : Nat}, n < k → bin n k = 0
  | 0, 0, h => by omega
  | 0, k + 1, _ => rfl
  | n + 1, 0, h => by omega
  | n + 1, k + 1, h => by simp only [bin]; rw [bin_big (by omega), bin_big (by omega)]
theorem bin_self : ∀ n, bin n n = 1
  | 0 => rfl
  | n + 1 => by simp only [bin]; rw [bin_self n, bin_big (by omega)]
theorem bin_succ_mul : ∀ n k, bin (n + 1) (k + 1) * (k + 1) = (n + 1) * bin n k
  | 0, 0 => rfl
  | 0, k + 1 => by simp [bin]
  | n + 1, 0 => by
    have h := bin_succ_mul n 0
    simp only [bin, bin_zero] at h ⊢
    omega
  | n + 1, k + 1 => by
    have h1 := bin_succ_mul n k
    have h2 := bin_succ_mul n (k + 1)
    have e : bin (n + 1 + 1) (k + 1 + 1) = bin (n + 1) (k + 1) + bin (n + 1) (k + 1 + 1) := rfl
    have e2 : bin (n + 1) (k + 1) = bin n k + bin n (k + 1) := rfl
    rw [e, Nat.add_mul, h2]
    generalize bin (n + 1) (k + 1) = X at *
    grind
theorem bin_next {n k : Nat} (h : k ≤ n) : (k + 1) * bin n (k + 1) = (n - k) * bin n k := by
  have h1 := bin_succ_mul n k
  have e : bin (n + 1) (k + 1) = bin n k + bin n (k + 1) := rfl
  rw [e] at h1
  obtain ⟨m, rfl⟩ := Nat.exists_eq_add_of_le h
  rw [show k + m - k = m from by omega]
  generalize bin (k + m) k = X at *
  generalize bin (k + m) (k + 1) = Z at *
  grind
theorem bin_symm : ∀ {n k : Nat}, k ≤ n → bin n (n - k) = bin n k
  | 0, 0, _ => rfl
  | 0, k + 1, h => by omega
  | n + 1, 0, _ => by rw [Nat.sub_zero, bin_self, bin_zero]
  | n + 1, k + 1, h => by
    by_cases hk : k = n
    · subst hk; rw [Nat.sub_self, bin_zero, bin_self]
    · have e : n + 1 - (k + 1) = (n - (k + 1)) + 1 := by omega
      rw [e]
      simp only [bin]
      rw [bin_symm (show k + 1 ≤ n by omega), show n - (k + 1) + 1 = n - k from by omega, bin_symm (show k ≤ n by omega)]
      omega
theorem bin_le_pow : ∀ n k, bin n k ≤ 2 ^ n
  | n, 0 => by rw [bin_zero]; exact Nat.one_le_two_pow
  | 0, k + 1 => by simp [bin]
  | n + 1, k + 1 => by
    have := bin_le_pow n k
    have := bin_le_pow n (k + 1)
    simp only [bin, Nat.pow_succ]
    omega
theorem bin_pos : ∀ {n k : Nat}, k ≤ n → 0 < bin n k
  | n, 0, _ => by rw [bin_zero]; omega
  | 0, k + 1, h => by omega
  | n + 1, k + 1, h => by
    have := bin_pos (show k ≤ n by omega)
    simp only [bin]
    omega
/-- A step of the product: i of n, the next one. -/
theorem bin_step {n i : Nat} (h1 : 1 ≤ i) (h : i ≤ n) : bin n (i - 1) * (n - i + 1) = i * bin n i := by
  have e := bin_next (n := n) (k := i - 1) (by omega)
  rw [show i - 1 + 1 = i from by omega, show n - (i - 1) = n - i + 1 from by omega] at e
  rw [e, Nat.mul_comm]
end Go.Proofs.Ytddmglgogjaajaa

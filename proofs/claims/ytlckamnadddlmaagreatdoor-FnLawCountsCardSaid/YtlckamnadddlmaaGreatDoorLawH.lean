import Derived.Test.YtlckamnadddlmaaGreatDoorLawG
import Derived.Test.YtlckamnadddlmaaGreatDoorLong3
import Derived.Test.YtlckamnadddlmaaGreatDoorLawE
/- The laws of ones, runs and longest runs are valid: their counts add up. No condition. -/
namespace Go.Proofs.YtlckamnadddlmaaGreatDoor
open Go.RowKit
set_option linter.unusedVariables false

theorem bin_pas (n : Nat) : ∀ m, sum0 (bin (n + 1)) (m + 1) = sum0 (bin n) m + sum0 (bin n) (m + 1)
  | 0 => by simp [sum0, bin_zero]
  | m + 1 => by
    have ih := bin_pas n m
    have e : bin (n + 1) (m + 1) = bin n m + bin n (m + 1) := rfl
    simp only [sum0] at ih ⊢
    rw [e]; omega
theorem bin_all : ∀ n m, n < m → sum0 (bin n) m = 2 ^ n
  | 0, m, h => by
    obtain ⟨k, rfl⟩ : ∃ k, m = k + 1 := ⟨m - 1, by omega⟩
    clear h
    induction k with
    | zero => rfl
    | succ k ih => rw [sum0, ih, bin_big (by omega)]
  | n + 1, m, h => by
    obtain ⟨k, rfl⟩ : ∃ k, m = k + 1 := ⟨m - 1, by omega⟩
    rw [bin_pas, bin_all n k (by omega), bin_all n (k + 1) (by omega), Nat.pow_succ]; omega
theorem sum0_mul (h : Nat → Nat) (a : Nat) : ∀ n, sum0 (fun k => a * h k) n = a * sum0 h n
  | 0 => rfl
  | n + 1 => by rw [sum0, sum0, sum0_mul h a n, Nat.mul_add]
theorem sum_rev (f : Nat → Nat) (n : Nat) : ∀ m, m ≤ n → sum1 (fun r => f (n - r)) m + sum0 f (n - m) = sum0 f n
  | 0, _ => by simp [sum1]
  | m + 1, h => by
    have ih := sum_rev f n m (by omega)
    rw [show n - m = (n - (m + 1)) + 1 by omega, sum0] at ih
    rw [sum1]; omega
theorem wy_sum0 (q : Nat) : ∀ k, k ≤ q → sum0 (wy q) (k + 1) = 2 ^ k
  | 0, _ => by simp [sum0, wy_zero]
  | k + 1, h => by
    have ih := wy_sum0 q k (by omega)
    have hr := sum_rev (wy q) (k + 1) (k + 1) (Nat.le_refl _)
    rw [sum0, wy_succ, Nat.min_eq_right h]
    rw [Nat.sub_self, sum0] at hr
    rw [Nat.pow_succ]; omega
theorem wy_full {q k : Nat} (h : k + 1 ≤ q) : wy q (k + 1) = 2 ^ k := by
  have h1 := wy_sum0 q (k + 1) h
  have h2 := wy_sum0 q k (by omega)
  rw [sum0, h2, Nat.pow_succ] at h1; omega
theorem sum1_le {f g : Nat → Nat} : ∀ n, (∀ k, 1 ≤ k → k ≤ n → f k ≤ g k) → sum1 f n ≤ sum1 g n
  | 0, _ => Nat.le_refl _
  | n + 1, h => by
    rw [sum1, sum1]
    have := sum1_le n (fun k h1 h2 => h k h1 (by omega))
    have := h (n + 1) (by omega) (Nat.le_refl _)
    omega
theorem wy_mono (q : Nat) : ∀ k j, j ≤ k → wy q j ≤ wy (q + 1) j
  | 0, j, h => by obtain rfl : j = 0 := by omega
                  rw [wy_zero, wy_zero]; exact Nat.le_refl _
  | k + 1, j, h => by
    rcases Nat.lt_or_ge j (k + 1) with h1 | h1
    · exact wy_mono q k j (by omega)
    · obtain rfl : j = k + 1 := by omega
      rw [wy_succ, wy_succ]
      refine Nat.le_trans (sum1_le _ (fun r h2 h3 => wy_mono q k (k + 1 - r) (by omega))) (sum1_part _ _ _ ?_)
      omega
theorem ones_psum (n : Nat) : psum (binR n (n + 1)) (n + 1) = ((2 ^ n : Nat) : Int) := by
  rw [psum_map0 (bin n) _ _ (fun i hi => binR_at hi), bin_all n (n + 1) (by omega)]
theorem runs_psum {n : Nat} (hn : 1 ≤ n) : psum (runR n n) n = ((2 ^ n : Nat) : Int) := by
  rw [psum_map0 (fun i => 2 * bin (n - 1) i) _ _ (fun i hi => by rw [runR_at hi, Int.natCast_mul]; rfl), sum0_mul, bin_all (n - 1) n (by omega)]
  obtain ⟨k, rfl⟩ : ∃ k, n = k + 1 := ⟨n - 1, by omega⟩
  rw [Nat.pow_succ, Nat.add_sub_cancel, Nat.mul_comm]
theorem long_psum (n : Nat) (hn : 1 ≤ n) : ∀ m, m ≤ n → psum (loR n n) m = 2 * ((wy m n : Nat) : Int)
  | 0, _ => by rw [wy_none hn]; rfl
  | m + 1, h => by
    rw [psum, long_psum n hn m (by omega), loR_at (by omega)]; omega
theorem long_total {n : Nat} (hn : 1 ≤ n) : psum (loR n n) n = ((2 ^ n : Nat) : Int) := by
  rw [long_psum n hn n (Nat.le_refl _)]
  obtain ⟨k, rfl⟩ : ∃ k, n = k + 1 := ⟨n - 1, by omega⟩
  rw [wy_full (Nat.le_refl _), Nat.pow_succ]; omega
theorem long_nn {n i : Nat} (h : i < n) : 0 ≤ (loR n n).getD i 0 := by
  rw [loR_at h]
  have := wy_mono i n n (Nat.le_refl _)
  omega
theorem pow_part {n : Nat} (hn : n ≤ 50) : 0 < 2 ^ n ∧ 2 ^ n ≤ 1000000000000000000 := ⟨Nat.pow_pos (by omega), by have := pow_50 hn; omega⟩
theorem onQ {n : Nat} (hn : n ≤ 50) : LawQ (onV n) (onF n) (onV n).length :=
  lawQ_counts (pow_part hn).1 (pow_part hn).2 (fun i hi => by rw [binR_at hi]; omega) (ones_psum n) (by omega) (by omega)
theorem ruQ {n : Nat} (hn : n ≤ 50) (h1 : 1 ≤ n) : LawQ (ruV n) (ruF n) (ruV n).length :=
  lawQ_counts (pow_part hn).1 (pow_part hn).2 (fun i hi => by rw [runR_at hi]; omega) (runs_psum h1) (by omega) (by omega)
theorem loQ {n : Nat} (hn : n ≤ 50) (h1 : 1 ≤ n) : LawQ (ltV n) (ltF n) (ltV n).length :=
  lawQ_counts (pow_part hn).1 (pow_part hn).2 (fun i hi => long_nn hi) (long_total h1) (by omega) (by omega)
end Go.Proofs.YtlckamnadddlmaaGreatDoor

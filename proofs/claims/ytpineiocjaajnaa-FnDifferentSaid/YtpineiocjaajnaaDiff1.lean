import Derived.Test.YtpineiocjaajnaaLongX
import Derived.Test.YtpineiocjaajnaaLawE
/- The law of different kinds: its counts, and the program. Conditions: kinds from 1 to 20, draws from 1 to 12. -/
namespace Go.Proofs.Ytpineiocjaajnaa
open Go.RowKit
set_option linter.unusedVariables false

/-- The next counts after t rounds. -/
def nd (K d t j : Nat) : Nat := (if j < t then j * dcF K d j else 0) + (if 1 ≤ j ∧ j ≤ t then (K - (j - 1)) * dcF K d (j - 1) else 0)
def ndI (K d L t : Nat) : List Int := (List.range L).map fun j => ((nd K d t j : Nat) : Int)
def dcI (K d L : Nat) : List Int := (List.range L).map fun j => ((dcF K d j : Nat) : Int)
theorem ndI_len (K d L t : Nat) : (ndI K d L t).length = L := by simp [ndI]
theorem ndI_at {K d L t j : Nat} (h : j < L) : (ndI K d L t).getD j 0 = ((nd K d t j : Nat) : Int) := by simp [ndI, List.getD, h]
theorem dcI_len (K d L : Nat) : (dcI K d L).length = L := by simp [dcI]
theorem dcI_at {K d L j : Nat} (h : j < L) : (dcI K d L).getD j 0 = ((dcF K d j : Nat) : Int) := by simp [dcI, List.getD, h]
theorem dc_start (K L : Nat) (hL : 1 ≤ L) : (List.replicate L (0 : Int)).set 0 1 = dcI K 0 L := by
  refine list_eq (by simp [dcI]) fun t ht => ?_
  rw [List.length_set, List.length_replicate] at ht
  rw [getD_setI _ _ _ _ (by simp; omega), dcI_at ht, dcF]
  by_cases e : t = 0
  · rw [if_pos e, if_pos e]; rfl
  · rw [if_neg e, if_neg e]; simp [List.getD, ht]
theorem nd_start (K d L : Nat) : List.replicate L (0 : Int) = ndI K d L 0 := by
  refine list_eq (by simp [ndI]) fun t ht => ?_
  rw [List.length_replicate] at ht
  rw [ndI_at ht]
  unfold nd
  rw [if_neg (by omega), if_neg (by omega)]
  simp [List.getD, ht]
theorem nd_here (K d t : Nat) : nd K d (t + 1) t = nd K d t t + t * dcF K d t := by
  unfold nd
  rw [if_pos (by omega), if_neg (Nat.lt_irrefl t)]
  by_cases h : 1 ≤ t
  · rw [if_pos (by omega), if_pos (by omega)]; omega
  · rw [if_neg (by omega), if_neg (by omega)]; omega
theorem nd_next (K d t : Nat) : nd K d (t + 1) (t + 1) = (K - t) * dcF K d t := by
  unfold nd
  rw [if_neg (Nat.lt_irrefl _), if_pos (by omega), Nat.add_sub_cancel]
  omega
theorem nd_zero (K d t : Nat) : nd K d t (t + 1) = 0 := by
  unfold nd
  rw [if_neg (by omega), if_neg (by omega)]
theorem nd_else {K d t j : Nat} (h1 : j ≠ t) (h2 : j ≠ t + 1) : nd K d (t + 1) j = nd K d t j := by
  unfold nd
  by_cases h : j < t
  · rw [if_pos (show j < t + 1 by omega), if_pos h]
    by_cases h3 : 1 ≤ j
    · rw [if_pos (by omega), if_pos (by omega)]
    · rw [if_neg (by omega), if_neg (by omega)]
  · rw [if_neg (show ¬ j < t + 1 by omega), if_neg h, if_neg (by omega), if_neg (by omega)]
theorem nd_two (K d L t : Nat) (h : t + 1 < L) : ((ndI K d L t).set t ((nd K d t t + t * dcF K d t : Nat) : Int)).set (t + 1) (((K - t) * dcF K d t : Nat) : Int) = ndI K d L (t + 1) := by
  refine list_eq (by simp [ndI]) fun j hj => ?_
  rw [List.length_set, List.length_set, ndI_len] at hj
  rw [getD_setI _ _ _ _ (by rw [List.length_set, ndI_len]; omega), getD_setI _ _ _ _ (by rw [ndI_len]; omega), ndI_at hj, ndI_at hj]
  by_cases e : j = t + 1
  · rw [if_pos e, e, nd_next]
  · rw [if_neg e]
    by_cases e1 : j = t
    · rw [if_pos e1, e1, nd_here]
    · rw [if_neg e1, nd_else e1 e]
theorem nd_one (K d L t : Nat) (h : t + 1 = L) : (ndI K d L t).set t ((nd K d t t + t * dcF K d t : Nat) : Int) = ndI K d L (t + 1) := by
  refine list_eq (by simp [ndI]) fun j hj => ?_
  rw [List.length_set, ndI_len] at hj
  rw [getD_setI _ _ _ _ (by rw [ndI_len]; omega), ndI_at hj, ndI_at hj]
  by_cases e1 : j = t
  · rw [if_pos e1, e1, nd_here]
  · rw [if_neg e1, nd_else e1 (by omega)]
theorem nd_full (K d t j : Nat) (h : j < t ∨ (d < j ∧ d < t)) : nd K d t j = dcF K (d + 1) j := by
  unfold nd
  cases j with
  | zero => rw [dcF_zero]; simp
  | succ k =>
    rw [dcF, Nat.add_sub_cancel]
    rcases h with h | ⟨h1, h2⟩
    · rw [if_pos h, if_pos (by omega)]
    · have hz : dcF K d (k + 1) = 0 := dcF_big K d (k + 1) (Or.inl h1)
      rw [hz, Nat.mul_zero]
      by_cases h3 : k + 1 ≤ t
      · rw [if_pos (show 1 ≤ k + 1 ∧ k + 1 ≤ t by omega)]; split <;> omega
      · have hz2 : dcF K d k = 0 := dcF_big K d k (Or.inl (by omega))
        rw [if_neg (by omega), if_neg (by omega), hz2, Nat.mul_zero]
theorem nd_end (K d L t : Nat) (h : ∀ j, j < L → j < t ∨ (d < j ∧ d < t)) : ndI K d L t = dcI K (d + 1) L := by
  refine list_eq (by simp [ndI, dcI]) fun j hj => ?_
  rw [ndI_len] at hj
  rw [ndI_at hj, dcI_at hj, nd_full K d t j (h j hj)]
theorem pow_kinds {K D : Nat} (hK : K ≤ 20) (hD : D ≤ 12) : K ^ D ≤ 4096000000000000 := by
  have h1 : K ^ D ≤ 20 ^ D := Nat.pow_le_pow_left hK D
  have h2 : 20 ^ D ≤ 20 ^ 12 := Nat.pow_le_pow_right (by omega) hD
  have h3 : 20 ^ 12 = 4096000000000000 := by decide
  omega
theorem dc_small {K d j : Nat} (hK : K ≤ 20) (hd : d ≤ 12) : dcF K d j ≤ 4096000000000000 := Nat.le_trans (dcF_le K d j) (pow_kinds hK hd)
theorem nd_small {K d t : Nat} (hK : K ≤ 20) (hd : d ≤ 12) (ht : t ≤ 20) : nd K d t t ≤ 81920000000000000 ∧ t * dcF K d t ≤ 81920000000000000 ∧ (K - t) * dcF K d t ≤ 81920000000000000 := by
  have h1 := dc_small (j := t) hK hd
  have h2 := dc_small (j := t - 1) hK hd
  have m1 : t * dcF K d t ≤ 20 * 4096000000000000 := Nat.mul_le_mul ht h1
  have m2 : (K - t) * dcF K d t ≤ 20 * 4096000000000000 := Nat.mul_le_mul (by omega) h1
  have m3 : (K - (t - 1)) * dcF K d (t - 1) ≤ 20 * 4096000000000000 := Nat.mul_le_mul (by omega) h2
  refine ⟨?_, by omega, by omega⟩
  unfold nd
  rw [if_neg (Nat.lt_irrefl t)]
  split <;> omega
theorem kind_mul (K d t : Nat) : ((K : Int) - (t : Int)) * ((dcF K d t : Nat) : Int) = (((K - t) * dcF K d t : Nat) : Int) := by
  by_cases h : t ≤ K
  · rw [Int.natCast_mul, Int.natCast_sub h]
  · rw [dcF_big K d t (Or.inr (by omega))]; simp
def lvC (c : Nat → Int) : Nat → List Int
  | 0 => []
  | m + 1 => if 0 < c m then lvC c m ++ [(0 : Int) + (m : Int)] else lvC c m
def lfC (c : Nat → Int) (all : Nat) : Nat → List Int
  | 0 => []
  | m + 1 => if 0 < c m then lfC c all m ++ [(mkRat (c m) all).num, ((mkRat (c m) all).den : Nat)] else lfC c all m
theorem lvT_fun {cs : List Int} {c : Nat → Int} : ∀ m, (∀ k, k < m → cs.getD k 0 = c k) → lvT 0 cs m = lvC c m
  | 0, _ => rfl
  | m + 1, h => by rw [lvT, lvC, h m (by omega), lvT_fun m fun k hk => h k (by omega)]
theorem lfT_fun {cs : List Int} {c : Nat → Int} (all : Nat) : ∀ m, (∀ k, k < m → cs.getD k 0 = c k) → lfT cs all m = lfC c all m
  | 0, _ => rfl
  | m + 1, h => by rw [lfT, lfC, h m (by omega), lfT_fun all m fun k hk => h k (by omega)]
theorem lvC_more {c : Nat → Int} {m : Nat} : ∀ n, m ≤ n → (∀ k, m ≤ k → k < n → c k ≤ 0) → lvC c n = lvC c m
  | 0, h, _ => by obtain rfl : m = 0 := by omega
                  rfl
  | n + 1, h, hz => by
    by_cases e : m = n + 1
    · subst e; rfl
    · have := hz n (by omega) (by omega)
      rw [lvC, if_neg (by omega)]
      exact lvC_more n (by omega) fun k h1 h2 => hz k h1 (by omega)
theorem lfC_more {c : Nat → Int} {m : Nat} (all : Nat) : ∀ n, m ≤ n → (∀ k, m ≤ k → k < n → c k ≤ 0) → lfC c all n = lfC c all m
  | 0, h, _ => by obtain rfl : m = 0 := by omega
                  rfl
  | n + 1, h, hz => by
    by_cases e : m = n + 1
    · subst e; rfl
    · have := hz n (by omega) (by omega)
      rw [lfC, if_neg (by omega)]
      exact lfC_more all n (by omega) fun k h1 h2 => hz k h1 (by omega)
/-- The two lists of counts make one law. -/
def dfV (K D : Nat) : List Int := lvC (fun k => ((dcF K D k : Nat) : Int)) (K + D + 1)
def dfL (K D : Nat) : List Int := lfC (fun k => ((dcF K D k : Nat) : Int)) (K ^ D) (K + D + 1)
theorem df_one (K D : Nat) : lvT 0 (dcI K D (K + 1)) (K + 1) = dfV K D ∧ lfT (dcI K D (K + 1)) (K ^ D) (K + 1) = dfL K D := by
  have hz : ∀ k, K + 1 ≤ k → k < K + D + 1 → ((dcF K D k : Nat) : Int) ≤ 0 := fun k h1 _ => by rw [dcF_big K D k (Or.inr (by omega))]; exact Int.le_refl _
  exact ⟨by rw [lvT_fun (K + 1) fun k hk => dcI_at hk]; exact (lvC_more (K + D + 1) (by omega) hz).symm, by rw [lfT_fun (K ^ D) (K + 1) fun k hk => dcI_at hk]; exact (lfC_more (K ^ D) (K + D + 1) (by omega) hz).symm⟩
theorem df_two (K D : Nat) : lvT 0 (dcI K D (D + 1)) (D + 1) = dfV K D ∧ lfT (dcI K D (D + 1)) (K ^ D) (D + 1) = dfL K D := by
  have hz : ∀ k, D + 1 ≤ k → k < K + D + 1 → ((dcF K D k : Nat) : Int) ≤ 0 := fun k h1 _ => by rw [dcF_big K D k (Or.inl (by omega))]; exact Int.le_refl _
  exact ⟨by rw [lvT_fun (D + 1) fun k hk => dcI_at hk]; exact (lvC_more (K + D + 1) (by omega) hz).symm, by rw [lfT_fun (K ^ D) (D + 1) fun k hk => dcI_at hk]; exact (lfC_more (K ^ D) (K + D + 1) (by omega) hz).symm⟩
def okD (K D : Int) : Bool := inR K 1 20 && inR D 1 12
def dV (K D : Int) : List Int := if okD K D then dfV K.toNat D.toNat else []
def dF (K D : Int) : List Int := if okD K D then dfL K.toNat D.toNat else []
end Go.Proofs.Ytpineiocjaajnaa

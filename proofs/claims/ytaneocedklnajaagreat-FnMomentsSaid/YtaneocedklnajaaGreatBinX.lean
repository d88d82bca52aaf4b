
/- The numbers of ways to choose, by Pascal's rule: plain facts. No condition. -/
namespace Go.Proofs.YtaneocedklnajaaGreat
set_option linter.unusedVariables false

def bin : Nat → Nat → Nat
  | _, 0 => 1
  | 0, _ + 1 => 0
  | n + 1, k + 1 => bin n k + bin n (k + 1)
theorem bin_zero (n : Nat) : bin n 0 = 1 := by cases n <;> rfl
theorem bin_big : ∀ {n k : Nat}, n < k → bin n k = 0
  | 0, 0, h => by omega
  | 0, k + 1, _ => rfl
  | n + 1, 0, h => by omega
  | n + 1, k + 1, h => by simp only [bin]; rw [bin_big (by omega), bin_big (by omega)]
theorem bin_self : ∀ n, bin n n = 1
  | 0 => rfl
  | n + 1 => by simp only [bin]; rw [bin_self n, bin_big (by omega)]
theorem bin_succ_mul : ∀ n k, bin (n + 1) (k + 1) * (k + 1) = (n + 1) * bin n k
  | 0, 0 => rfl
  | 0, k + 1 => by simp [bin]
  | n + 1, 0 => by
    have h := bin_succ_mul n 0
    simp only [bin, bin_zero] at h ⊢
    omega
  | n + 1, k + 1 => by
    have h1 := bin_succ_mul n k
    have h2 := bin_succ_mul n (k + 1)
    have e : bin (n + 1 + 1) (k + 1 + 1) = bin (n + 1) (k + 1) + bin (n + 1) (k + 1 + 1) := rfl
    have e2 : bin (n + 1) (k + 1) = bin n k + bin n (k + 1) := rfl
    rw [e, Nat.add_mul, h2]
    generalize bin (n + 1) (k + 1) = X at *
    grind
theorem bin_next {n k : Nat} (h : k ≤ n) : (k + 1) * bin n (k + 1) = (n - k) * bin n k := by
  have h1 := bin_succ_mul n k
  have e : bin (n + 1) (k + 1) = bin n k + bin n (k + 1) := rfl
  rw [e] at h1
  obtain ⟨m, rfl⟩ := Nat.exists_eq_add_of_le h
  rw [show k + m - k = m from by omega]
  generalize bin (k + m) k = X at *
  generalize bin (k + m) (k + 1) = Z at *
  grind
theorem bin_symm : ∀ {n k : Nat}, k ≤ n → bin n (n - k) = bin n k
  | 0, 0, _ => rfl
  | 0, k + 1, h => by omega
  | n + 1, 0, _ => by rw [Nat.sub_zero, bin_self, bin_zero]
  | n + 1, k + 1, h => by
    by_cases hk : k = n
    · subst hk; rw [Nat.sub_self, bin_zero, bin_self]
    · have e : n + 1 - (k + 1) = (n - (k + 1)) + 1 := by omega
      rw [e]
      simp only [bin]
      rw [bin_symm (show k + 1 ≤ n by omega), show n - (k + 1) + 1 = n - k from by omega, bin_symm (show k ≤ n by omega)]
      omega
theorem bin_le_pow : ∀ n k, bin n k ≤ 2 ^ n
  | n, 0 => by rw [bin_zero]; exact Nat.one_le_two_pow
  | 0, k + 1 => by simp [bin]
  | n + 1, k + 1 => by
    have := bin_le_pow n k
    have := bin_le_pow n (k + 1)
    simp only [bin, Nat.pow_succ]
    omega
theorem bin_pos : ∀ {n k : Nat}, k ≤ n → 0 < bin n k
  | n, 0, _ => by rw [bin_zero]; omega
  | 0, k + 1, h => by omega
  | n + 1, k + 1, h => by
    have := bin_pos (show k ≤ n by omega)
    simp only [bin]
    omega
/-- A step of the product: i of n, the next one. -/
theorem bin_step {n i : Nat} (h1 : 1 ≤ i) (h : i ≤ n) : bin n (i - 1) * (n - i + 1) = i * bin n i := by
  have e := bin_next (n := n) (k := i - 1) (by omega)
  rw [show i - 1 + 1 = i from by omega, show n - (i - 1) = n - i + 1 from by omega] at e
  rw [e, Nat.mul_comm]
end Go.Proofs.YtaneocedklnajaaGreat
/- Laws that are made of counts: which values stand in them; the counts of longest runs in two ways; the counts of different kinds. Plain facts. No condition. -/
namespace Go.Proofs.YtaneocedklnajaaGreat
set_option linter.unusedVariables false

/-- The values below N whose count is not 0. -/
def lawVs (c : Nat → Int) : Nat → List Nat
  | 0 => []
  | n + 1 => if 0 < c n then lawVs c n ++ [n] else lawVs c n
theorem lawVs_more {c : Nat → Int} {m : Nat} : ∀ n, m ≤ n → (∀ v, m ≤ v → v < n → c v ≤ 0) → lawVs c n = lawVs c m
  | 0, h, _ => by obtain rfl : m = 0 := by omega
                  rfl
  | n + 1, h, hz => by
    by_cases e : m = n + 1
    · subst e; rfl
    · have := hz n (by omega) (by omega)
      rw [lawVs, if_neg (by omega)]
      exact lawVs_more n (by omega) fun v h1 h2 => hz v h1 (by omega)
theorem lawVs_congr {c d : Nat → Int} : ∀ n, (∀ v, v < n → c v = d v) → lawVs c n = lawVs d n
  | 0, _ => rfl
  | n + 1, h => by rw [lawVs, lawVs, h n (by omega), lawVs_congr n fun v hv => h v (by omega)]
theorem lawVs_len (c : Nat → Int) : ∀ n, (lawVs c n).length ≤ n
  | 0 => Nat.le_refl _
  | n + 1 => by have := lawVs_len c n; rw [lawVs]; split <;> simp <;> omega
theorem lawVs_mem {c : Nat → Int} {v : Nat} : ∀ n, v ∈ lawVs c n → v < n ∧ 0 < c v
  | 0, h => by cases h
  | n + 1, h => by
    rw [lawVs] at h
    split at h
    · rename_i hc
      rcases List.mem_append.1 h with h | h
      · have := lawVs_mem n h; exact ⟨by omega, this.2⟩
      · rw [List.mem_singleton] at h; subst h; exact ⟨by omega, hc⟩
    · have := lawVs_mem n h; exact ⟨by omega, this.2⟩

/-- A sum of numbers from 1 on. -/
def sum1 (h : Nat → Nat) : Nat → Nat
  | 0 => 0
  | n + 1 => sum1 h n + h (n + 1)
theorem sum1_congr {h g : Nat → Nat} : ∀ n, (∀ k, 1 ≤ k → k ≤ n → h k = g k) → sum1 h n = sum1 g n
  | 0, _ => rfl
  | n + 1, e => by rw [sum1, sum1, sum1_congr n (fun k h1 h2 => e k h1 (by omega)), e (n + 1) (by omega) (by omega)]
theorem sum1_mul (h : Nat → Nat) (a : Nat) : ∀ n, sum1 (fun k => a * h k) n = a * sum1 h n
  | 0 => rfl
  | n + 1 => by rw [sum1, sum1, sum1_mul h a n, Nat.mul_add]
theorem sum1_more {h : Nat → Nat} {m : Nat} : ∀ n, m ≤ n → (∀ k, m < k → k ≤ n → h k = 0) → sum1 h n = sum1 h m
  | 0, e, _ => by obtain rfl : m = 0 := by omega
                  rfl
  | n + 1, e, hz => by
    by_cases e1 : m = n + 1
    · subst e1; rfl
    · rw [sum1, hz (n + 1) (by omega) (by omega), sum1_more n (by omega) fun k h1 h2 => hz k h1 (by omega), Nat.add_zero]
/-- The ways to fill k places by runs of at most q, as a list from 0 on. -/
def wyL (q : Nat) : Nat → List Nat
  | 0 => [1]
  | k + 1 => wyL q k ++ [sum1 (fun r => (wyL q k).getD (k + 1 - r) 0) (min q (k + 1))]
theorem wyL_len (q : Nat) : ∀ k, (wyL q k).length = k + 1
  | 0 => rfl
  | k + 1 => by rw [wyL, List.length_append, wyL_len q k]; rfl
def wy (q k : Nat) : Nat := (wyL q k).getD k 0
theorem wyL_at (q : Nat) : ∀ k j, j ≤ k → (wyL q k).getD j 0 = wy q j
  | 0, j, h => by obtain rfl : j = 0 := by omega
                  rfl
  | k + 1, j, h => by
    by_cases e : j = k + 1
    · subst e; rfl
    · have h1 : j < (wyL q k).length := by rw [wyL_len]; omega
      rw [← wyL_at q k j (by omega), wyL]
      simp [List.getD, List.getElem?_append_left h1]
theorem wy_zero (q : Nat) : wy q 0 = 1 := rfl
theorem wy_succ (q k : Nat) : wy q (k + 1) = sum1 (fun r => wy q (k + 1 - r)) (min q (k + 1)) := by
  have h : wy q (k + 1) = sum1 (fun r => (wyL q k).getD (k + 1 - r) 0) (min q (k + 1)) := by
    have hl := wyL_len q k
    unfold wy
    rw [wyL]
    simp [List.getD, hl]
  rw [h]
  exact sum1_congr _ fun r h1 h2 => wyL_at q k _ (by omega)
theorem sum_pow (f : Nat → Nat) (k : Nat) (hf : ∀ j, j ≤ k → f j ≤ 2 ^ j) : ∀ m, m ≤ k + 1 → sum1 (fun r => f (k + 1 - r)) m + 2 ^ (k + 1 - m) ≤ 2 ^ (k + 1)
  | 0, _ => by simp [sum1]
  | m + 1, hm => by
    have h1 := sum_pow f k hf m (by omega)
    have h2 := hf (k + 1 - (m + 1)) (by omega)
    have h3 : k + 1 - m = (k + 1 - (m + 1)) + 1 := by omega
    rw [h3, Nat.pow_succ] at h1
    rw [sum1]
    omega
theorem wy_le (q : Nat) : ∀ k, wy q k ≤ 2 ^ k := by
  intro k
  induction k using Nat.strongRecOn with
  | ind k ih =>
    cases k with
    | zero => exact Nat.le_refl _
    | succ k =>
      rw [wy_succ]
      exact Nat.le_trans (Nat.le_add_right _ _) (sum_pow (wy q) k (fun j hj => ih j (by omega)) (min q (k + 1)) (by omega))
theorem wy_part_le (q k m : Nat) (hm : m ≤ k + 1) : sum1 (fun r => wy q (k + 1 - r)) m ≤ 2 ^ (k + 1) := by
  exact Nat.le_trans (Nat.le_add_right _ _) (sum_pow (wy q) k (fun j _ => wy_le q j) m hm)
/-- The counts by the length of the last run, after i + 1 places. -/
def lastR (q i k : Nat) : Nat := if 1 ≤ k ∧ k ≤ q ∧ k ≤ i + 1 then 2 * wy q (i + 1 - k) else 0
theorem lastR_sum (q i : Nat) : sum1 (lastR q i) q = 2 * wy q (i + 1) := by
  rw [wy_succ, ← sum1_mul]
  rw [sum1_more (m := min q (i + 1)) q (by omega) (fun k h1 h2 => by unfold lastR; rw [if_neg (by omega)])]
  exact sum1_congr _ fun k h1 h2 => by unfold lastR; rw [if_pos (by omega)]
theorem lastR_start (q k : Nat) (hq : 1 ≤ q) : lastR q 0 k = if k = 1 then 2 else 0 := by
  unfold lastR
  by_cases h : k = 1
  · subst h; rw [if_pos (by omega), if_pos rfl]; rfl
  · rw [if_neg (by omega), if_neg h]
theorem lastR_next (q i k : Nat) (hk : 1 ≤ k) : lastR q (i + 1) (k + 1) = if k < q then lastR q i k else 0 := by
  unfold lastR
  by_cases h : k < q
  · rw [if_pos h]
    by_cases h1 : k ≤ i + 1
    · rw [if_pos (by omega), if_pos (by omega)]
      congr 2
      omega
    · rw [if_neg (by omega), if_neg (by omega)]
  · rw [if_neg h, if_neg (by omega)]
theorem lastR_one (q i : Nat) (hq : 1 ≤ q) : lastR q (i + 1) 1 = 2 * wy q (i + 1) := by
  unfold lastR
  rw [if_pos (by omega)]
  congr 1
theorem lastR_le (q i k : Nat) : lastR q i k ≤ 2 ^ (i + 2) := by
  unfold lastR
  split
  · have h1 := wy_le q (i + 1 - k)
    have h2 : 2 ^ (i + 1 - k) ≤ 2 ^ (i + 1) := Nat.pow_le_pow_right (by omega) (by omega)
    rw [Nat.pow_succ 2 (i + 1)]
    omega
  · exact Nat.zero_le _

/-- How many lists of d draws out of K kinds have k different ones. -/
def dcF (K : Nat) : Nat → Nat → Nat
  | 0, k => if k = 0 then 1 else 0
  | d + 1, 0 => 0
  | d + 1, k + 1 => (k + 1) * dcF K d (k + 1) + (K - k) * dcF K d k
theorem dcF_zero (K d : Nat) : dcF K (d + 1) 0 = 0 := rfl
theorem dcF_big (K : Nat) : ∀ d k, (d < k ∨ K < k) → dcF K d k = 0
  | 0, k, h => by rw [dcF]; split <;> omega
  | d + 1, 0, h => rfl
  | d + 1, k + 1, h => by
    rw [dcF, dcF_big K d (k + 1) (by omega)]
    by_cases h1 : d < k ∨ K < k
    · rw [dcF_big K d k h1, Nat.mul_zero, Nat.mul_zero]
    · have : K - k = 0 := by omega
      rw [this]; simp
def sum0 (h : Nat → Nat) : Nat → Nat
  | 0 => 0
  | n + 1 => sum0 h n + h n
theorem sum0_at {h : Nat → Nat} : ∀ n k, k < n → h k ≤ sum0 h n
  | 0, k, hk => by omega
  | n + 1, k, hk => by
    rw [sum0]
    by_cases e : k = n
    · subst e; omega
    · have := sum0_at (h := h) n k (by omega); omega
theorem dcF_sum (K d : Nat) : ∀ m, m ≤ K + 1 → sum0 (dcF K (d + 1)) m + (K + 1 - m) * (if m = 0 then 0 else dcF K d (m - 1)) = K * sum0 (dcF K d) m
  | 0, _ => by simp [sum0]
  | m + 1, hm => by
    have ih := dcF_sum K d m (by omega)
    rw [sum0, sum0]
    cases m with
    | zero =>
      simp [sum0] at ih ⊢
      rw [dcF_zero]
    | succ k =>
      simp only [Nat.add_sub_cancel, if_neg (Nat.succ_ne_zero _)] at ih ⊢
      rw [dcF, Nat.mul_add]
      have e1 : K + 1 - (k + 1) = K - k := by omega
      rw [e1] at ih
      have e2 : K * dcF K d (k + 1) = (k + 1) * dcF K d (k + 1) + (K + 1 - (k + 1 + 1)) * dcF K d (k + 1) := by
        rw [← Nat.add_mul]
        congr 1
        omega
      omega
theorem dcF_total (K : Nat) : ∀ d, sum0 (dcF K d) (K + 1) = K ^ d
  | 0 => by
    have : ∀ m, sum0 (dcF K 0) (m + 1) = 1 := by
      intro m
      induction m with
      | zero => rfl
      | succ m ih => rw [sum0, ih, dcF, if_neg (by omega)]
    exact this K
  | d + 1 => by
    have h := dcF_sum K d (K + 1) (Nat.le_refl _)
    rw [dcF_total K d] at h
    rw [Nat.pow_succ, Nat.mul_comm]
    simpa using h
theorem dcF_le (K d k : Nat) : dcF K d k ≤ K ^ d := by
  by_cases h : k < K + 1
  · rw [← dcF_total K d]; exact sum0_at _ _ h
  · rw [dcF_big K d k (Or.inr (by omega))]; exact Nat.zero_le _
end Go.Proofs.YtaneocedklnajaaGreat

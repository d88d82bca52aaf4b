import Derived.Test.YtklnfhjgbmfilaaDigOps
/- Division of numbers by their digits: one digit of the quotient, and the whole loop. No condition. -/
namespace Go.Proofs.Ytklnfhjgbmfilaa
set_option linter.unusedVariables false

/-- The digits from k on, n + 1 of them. -/
def window (rs : List Nat) (k n : Nat) : List Nat := (rs.drop k).take (n + 1)
theorem window_len {rs : List Nat} {k n : Nat} (h : k + n < rs.length) : (window rs k n).length = n + 1 := by unfold window; simp; omega
theorem window_ok {rs : List Nat} (h : dOk rs) (k n : Nat) : dOk (window rs k n) := dOk_take (dOk_drop h k) _
theorem window_at {rs : List Nat} {k n j : Nat} (h : j < n + 1) : (window rs k n).getD j 0 = rs.getD (k + j) 0 := by
  unfold window
  simp [List.getD, h]
theorem dval_hi_zero {l : List Nat} {i : Nat} (h : dval l < bse ^ i) : dval (l.drop i) = 0 := by
  by_cases hi : i ≤ l.length
  · rw [dval_split l i hi] at h
    rcases Nat.eq_zero_or_pos (dval (l.drop i)) with h0 | h0
    · exact h0
    · exfalso
      have : bse ^ i * 1 ≤ bse ^ i * dval (l.drop i) := Nat.mul_le_mul_left _ h0
      omega
  · rw [List.drop_of_length_le (by omega)]; rfl
theorem window_val {rs : List Nat} {k n : Nat} (hl : k + n < rs.length) (h : dval rs < bse ^ (k + n + 1)) : dval rs = dval (rs.take k) + bse ^ k * dval (window rs k n) := by
  have h1 := dval_split rs k (by omega)
  have h2 := dval_hi_zero h
  have h3 := dval_split (rs.drop k) (n + 1) (by simp; omega)
  rw [List.drop_drop, show k + (n + 1) = k + n + 1 from by omega, h2, Nat.mul_zero, Nat.add_zero] at h3
  rw [h1, h3]
  rfl

/-- k digits of the quotient are still to be found. -/
structure OverR (X b n : Nat) (rs qs : List Nat) (k : Nat) : Prop where
  ok : dOk rs
  qok : dOk qs
  val : dval rs + bse ^ k * (dval (qs.drop k) * b) = X
  lt : dval rs < bse ^ k * b
  bn : b < bse ^ n

theorem OverR.top {X b n k : Nat} {rs qs : List Nat} (h : OverR X b n rs qs (k + 1)) (hl : k + n < rs.length) : dval rs = dval (rs.take k) + bse ^ k * dval (window rs k n) := by
  refine window_val hl (Nat.lt_of_lt_of_le h.lt ?_)
  have := Nat.mul_le_mul_left (bse ^ (k + 1)) (Nat.le_of_lt h.bn)
  rw [← Nat.pow_add] at this
  rwa [show k + n + 1 = k + 1 + n from by omega]
/-- The true digit is one. -/
theorem OverR.dig {X b n k : Nat} {rs qs : List Nat} (h : OverR X b n rs qs (k + 1)) (hb : 0 < b) (hl : k + n < rs.length) : dval (window rs k n) / b < bse := by
  rw [Nat.div_lt_iff_lt_mul hb]
  have h1 := h.top hl
  have h2 := h.lt
  rw [Nat.pow_succ, Nat.mul_assoc] at h2
  have h3 : bse ^ k * dval (window rs k n) < bse ^ k * (bse * b) := by omega
  exact Nat.lt_of_mul_lt_mul_left h3
/-- The first guess is not too small. -/
theorem guess_ok {ws bs : List Nat} {n b : Nat} (hn : 0 < n) (hw : dOk ws) (hwl : ws.length = n + 1) (hbl : bs.length = n) (hb : dval bs = b) (hb0 : bs.getD (n - 1) 0 ≠ 0) :
    dval ws / b ≤ (ws.getD n 0 * bse + ws.getD (n - 1) 0) / bs.getD (n - 1) 0 := by
  have hq : dval ws / b * b ≤ dval ws := Nat.div_mul_le_self _ _
  generalize dval ws / b = q at hq
  have h1 := dval_take_succ ws n
  rw [List.take_of_length_le (by omega)] at h1
  have h2 := dval_take_succ ws (n - 1)
  rw [show n - 1 + 1 = n from by omega] at h2
  have h3 := dval_lt (dOk_take hw (n - 1))
  rw [List.length_take, Nat.min_eq_left (by omega)] at h3
  have h4 := dval_take_succ bs (n - 1)
  rw [show n - 1 + 1 = n from by omega, List.take_of_length_le (by omega), hb] at h4
  have hp : bse ^ n = bse ^ (n - 1) * bse := by
    obtain ⟨m, rfl⟩ : ∃ m, n = m + 1 := ⟨n - 1, by omega⟩
    rw [Nat.pow_succ]; rfl
  rw [Nat.le_div_iff_mul_le (Nat.pos_of_ne_zero hb0)]
  have h5 : bse ^ (n - 1) * (q * bs.getD (n - 1) 0) ≤ q * b := by
    rw [h4, Nat.mul_add]
    have : q * (bse ^ (n - 1) * bs.getD (n - 1) 0) = bse ^ (n - 1) * (q * bs.getD (n - 1) 0) := by grind
    omega
  have h6 : dval ws < bse ^ (n - 1) * (ws.getD n 0 * bse + ws.getD (n - 1) 0 + 1) := by
    rw [h1, h2, hp, Nat.mul_add, Nat.mul_add]
    have : bse ^ (n - 1) * bse * ws.getD n 0 = bse ^ (n - 1) * (ws.getD n 0 * bse) := by grind
    omega
  have h7 : bse ^ (n - 1) * (q * bs.getD (n - 1) 0) < bse ^ (n - 1) * (ws.getD n 0 * bse + ws.getD (n - 1) 0 + 1) := by omega
  have := Nat.lt_of_mul_lt_mul_left h7
  omega
/-- The digits with the window cleared, and the rest of the window laid. -/
def laid (rs : List Nat) (k n z : Nat) : List Nat := rs.take k ++ (digs z ++ List.replicate (n + 1 - (digs z).length) 0) ++ rs.drop (k + n + 1)
theorem laid_len {rs : List Nat} {k n z : Nat} (hl : k + n < rs.length) (hz : (digs z).length ≤ n + 1) : (laid rs k n z).length = rs.length := by
  unfold laid; simp; omega
theorem laid_ok {rs : List Nat} {k n z : Nat} (h : dOk rs) : dOk (laid rs k n z) := by
  unfold laid
  rw [dOk_append, dOk_append, dOk_append]
  exact ⟨⟨dOk_take h k, digs_ok z, dOk_replicate _⟩, dOk_drop h _⟩
theorem laid_val {rs : List Nat} {k n z : Nat} (hl : k + n < rs.length) (h : dval rs < bse ^ (k + n + 1)) : dval (laid rs k n z) = dval (rs.take k) + bse ^ k * z := by
  unfold laid
  rw [dval_append, dval_append, dval_append, dval_hi_zero h, dval_replicate, dval_digs, List.length_take, Nat.min_eq_left (by omega)]
  simp
theorem OverR.next {X b n k : Nat} {rs qs : List Nat} (h : OverR X b n rs qs (k + 1)) (hb : 0 < b) (hl : k + n < rs.length) (hk : k < qs.length) :
    OverR X b n (laid rs k n (dval (window rs k n) % b)) (qs.set k (dval (window rs k n) / b)) k := by
  have hlt : dval rs < bse ^ (k + n + 1) := by
    refine Nat.lt_of_lt_of_le h.lt ?_
    have := Nat.mul_le_mul_left (bse ^ (k + 1)) (Nat.le_of_lt h.bn)
    rw [← Nat.pow_add] at this
    rwa [show k + n + 1 = k + 1 + n from by omega]
  have htop := h.top hl
  have hdig := h.dig hb hl
  have e := Nat.div_add_mod (dval (window rs k n)) b
  generalize dval (window rs k n) = W at htop hdig e
  have hmod : W % b < b := Nat.mod_lt _ hb
  refine ⟨laid_ok h.ok, dOk_set h.qok _ _ hdig, ?_, ?_, h.bn⟩
  · rw [laid_val hl hlt]
    have hd : (qs.set k (W / b)).drop k = (W / b) :: qs.drop (k + 1) := by
      rw [List.drop_eq_getElem_cons (by simp; omega)]
      congr 1
      · simp
      · rw [List.drop_set_of_lt (by omega)]
    have hv := h.val
    rw [hd, dval, Nat.add_mul, Nat.mul_add]
    rw [htop, Nat.pow_succ] at hv
    have e1 : bse ^ k * W = bse ^ k * (W / b * b) + bse ^ k * (W % b) := by rw [← Nat.mul_add, Nat.mul_comm (W / b) b, e]
    have e2 : bse ^ k * bse * (dval (qs.drop (k + 1)) * b) = bse ^ k * (bse * dval (qs.drop (k + 1)) * b) := by grind
    omega
  · rw [laid_val hl hlt]
    have h1 := dval_lt (dOk_take h.ok k)
    rw [List.length_take, Nat.min_eq_left (by omega)] at h1
    have h2 : bse ^ k * (W % b + 1) ≤ bse ^ k * b := Nat.mul_le_mul_left _ hmod
    rw [Nat.mul_add] at h2
    omega
theorem OverR.done {X b n : Nat} {rs qs : List Nat} (h : OverR X b n rs qs 0) : dval qs = X / b ∧ dval rs = X % b := by
  have hv := h.val
  have hl := h.lt
  simp only [Nat.pow_zero, Nat.one_mul, List.drop_zero] at hv hl
  have hb : 0 < b := by omega
  constructor
  · rw [← hv, Nat.add_mul_div_right _ _ hb, Nat.div_eq_of_lt hl, Nat.zero_add]
  · rw [← hv, Nat.add_mul_mod_self_right, Nat.mod_eq_of_lt hl]
theorem OverR.start {X b n Q : Nat} {rs : List Nat} (ok : dOk rs) (hv : dval rs = X) (hbn : b < bse ^ n) (hlt : X < bse ^ Q * b) : OverR X b n rs (List.replicate Q 0) Q :=
  ⟨ok, dOk_replicate _, by rw [hv, List.drop_of_length_le (by simp)]; simp [dval], by rw [hv]; exact hlt, hbn⟩
/-- Quotient and rest of shifted numbers. -/
theorem shift_div (x y s : Nat) (hy : 0 < y) : (2 ^ s * x) / (2 ^ s * y) = x / y ∧ (2 ^ s * x) % (2 ^ s * y) / 2 ^ s = x % y := by
  have hp := Nat.two_pow_pos s
  constructor
  · exact Nat.mul_div_mul_left _ _ hp
  · rw [Nat.mul_mod_mul_left, Nat.mul_div_cancel_left _ hp]
/-- The digits of the shifted divisor. -/
theorem up_digs {y s : Nat} (h : y ≠ 0) (hs : 2 ^ s * y < bse ^ (digs y).length) : (digs (2 ^ s * y)).length = (digs y).length := by
  have h1 := digs_len_le hs
  have h2 := digs_len_mono (Nat.le_mul_of_pos_left y (Nat.two_pow_pos s))
  omega
end Go.Proofs.Ytklnfhjgbmfilaa

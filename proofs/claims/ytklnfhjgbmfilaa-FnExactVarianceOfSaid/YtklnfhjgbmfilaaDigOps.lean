import Derived.Test.YtklnfhjgbmfilaaDig
/- The loops of the operations on digits: what holds in the middle of each, and that it holds behind one more round. -/
namespace Go.Proofs.Ytklnfhjgbmfilaa
set_option linter.unusedVariables false

theorem split_base (c : Nat) : c % bse + bse * (c / bse) = c := Nat.mod_add_div c bse
theorem take_set_self {l : List Nat} {k v : Nat} (hk : k < l.length) : dval ((l.set k v).take (k + 1)) = dval (l.take k) + bse ^ k * v := by
  rw [dval_take_succ, List.take_set_of_le (Nat.le_refl k)]
  simp [List.getD, hk]

/-- plus: the first k digits of the sum are laid, c is the carry. -/
def PlusR (a b ds : List Nat) (k c : Nat) : Prop := dOk ds ∧ c ≤ 1 ∧ dval (ds.take k) + bse ^ k * c = dval (a.take k) + dval (b.take k)
theorem plusR_start (a b : List Nat) (n : Nat) : PlusR a b (List.replicate n 0) 0 0 := ⟨dOk_replicate n, by omega, by simp [dval]⟩
theorem plusR_next {a b ds : List Nat} {k c : Nat} (ha : dOk a) (hb : dOk b) (hk : k < ds.length) (h : PlusR a b ds k c) :
    PlusR a b (ds.set k ((c + a.getD k 0 + b.getD k 0) % bse)) (k + 1) ((c + a.getD k 0 + b.getD k 0) / bse) := by
  obtain ⟨h1, h2, h3⟩ := h
  refine ⟨dOk_set h1 _ _ (Nat.mod_lt _ bse_pos), ?_, ?_⟩
  · have : (c + a.getD k 0 + b.getD k 0) / bse < 2 := by
      rw [Nat.div_lt_iff_lt_mul bse_pos]
      have := bse_eq
      have := dOk_at ha k
      have := dOk_at hb k
      omega
    omega
  · rw [take_set_self hk, dval_take_succ, dval_take_succ]
    have e := split_base (c + a.getD k 0 + b.getD k 0)
    have e1 : bse ^ k * ((c + a.getD k 0 + b.getD k 0) % bse) + bse ^ (k + 1) * ((c + a.getD k 0 + b.getD k 0) / bse) = bse ^ k * (c + a.getD k 0 + b.getD k 0) := by
      rw [Nat.pow_succ, Nat.mul_assoc, ← Nat.mul_add, e]
    rw [Nat.mul_add, Nat.mul_add] at e1
    omega
theorem plusR_end {a b ds : List Nat} {n c : Nat} (ha : dOk a) (hb : dOk b) (hba : b.length ≤ a.length) (hn : n = a.length + 1) (hds : ds.length = n) (h : PlusR a b ds n c) : dval ds = dval a + dval b := by
  obtain ⟨h1, h2, h3⟩ := h
  rw [List.take_of_length_le (by omega), List.take_of_length_le (by omega), List.take_of_length_le (by omega)] at h3
  have ha2 := dval_lt ha
  have hb2 := dval_lt hb
  have hp : bse ^ b.length ≤ bse ^ a.length := Nat.pow_le_pow_right bse_pos hba
  have hq : bse ^ n = bse ^ a.length * bse := by rw [hn, Nat.pow_succ]
  have hr : bse ^ a.length * 2 ≤ bse ^ a.length * bse := Nat.mul_le_mul_left _ (by decide)
  rcases Nat.eq_zero_or_pos c with hc | hc
  · subst hc; simpa using h3
  · have hc1 : c = 1 := by omega
    subst hc1
    omega

/-- minus: the first k digits of the difference are laid, r is owed. -/
def MinusR (a b ds : List Nat) (k r : Nat) : Prop := dOk ds ∧ r ≤ 1 ∧ dval (ds.take k) + dval (b.take k) = dval (a.take k) + bse ^ k * r
theorem minusR_start (a b : List Nat) (n : Nat) : MinusR a b (List.replicate n 0) 0 0 := ⟨dOk_replicate n, by omega, by simp [dval]⟩
theorem minusR_next {a b ds : List Nat} {k r d r' : Nat} (hd : d < bse) (hr : r' ≤ 1) (he : d + r + b.getD k 0 = a.getD k 0 + bse * r') (hk : k < ds.length) (h : MinusR a b ds k r) : MinusR a b (ds.set k d) (k + 1) r' := by
  obtain ⟨h1, h2, h3⟩ := h
  refine ⟨dOk_set h1 _ _ hd, hr, ?_⟩
  rw [take_set_self hk, dval_take_succ, dval_take_succ]
  have e : bse ^ k * (d + r + b.getD k 0) = bse ^ k * a.getD k 0 + bse ^ (k + 1) * r' := by rw [he, Nat.mul_add, Nat.pow_succ, Nat.mul_assoc]
  rw [Nat.mul_add, Nat.mul_add] at e
  omega
theorem minusR_end {a b ds : List Nat} {r : Nat} (ha : dOk a) (hle : dval b ≤ dval a) (hb : b.length ≤ a.length) (hds : ds.length = a.length) (h : MinusR a b ds a.length r) : dval ds = dval a - dval b := by
  obtain ⟨h1, h2, h3⟩ := h
  rw [List.take_of_length_le (by omega), List.take_of_length_le (by omega), List.take_of_length_le (by omega)] at h3
  have h4 := dval_lt h1
  rw [hds] at h4
  rcases Nat.eq_zero_or_pos r with hr | hr
  · subst hr; omega
  · have : r = 1 := by omega
    subst this
    omega

/-- times: i digits of a have been multiplied; in the round, k digits of b, with the carry. -/
def TimesR (a b ds : List Nat) (i : Nat) : Prop := dOk ds ∧ dval ds = dval (a.take i) * dval b ∧ ∀ j, i + b.length ≤ j → ds.getD j 0 = 0
def TimesS (a b ds : List Nat) (i k c : Nat) : Prop := dOk ds ∧ c < bse ∧ dval ds + bse ^ (i + k) * c = dval (a.take i) * dval b + bse ^ i * (a.getD i 0 * dval (b.take k)) ∧ ∀ j, i + b.length ≤ j → ds.getD j 0 = 0
theorem getD_replicate_zero (n j : Nat) : (List.replicate n (0 : Nat)).getD j 0 = 0 := by
  simp only [List.getD, List.getElem?_replicate]
  split <;> rfl
theorem timesR_start (a b : List Nat) (n : Nat) : TimesR a b (List.replicate n 0) 0 := ⟨dOk_replicate n, by simp [dval, dval_replicate], fun j _ => getD_replicate_zero n j⟩
theorem timesS_start {a b ds : List Nat} {i : Nat} (h : TimesR a b ds i) : TimesS a b ds i 0 0 := ⟨h.1, bse_pos, by rw [h.2.1]; simp [dval], h.2.2⟩
theorem set_add {l : List Nat} {j v w : Nat} (hj : j < l.length) (hv : v = l.getD j 0 + w) : dval (l.set j v) = dval l + bse ^ j * w := by
  have := dval_set l j v hj
  rw [hv, Nat.mul_add] at this
  rw [hv]
  omega
theorem timesS_next {a b ds : List Nat} {i k c t : Nat} (ha : dOk a) (hb : dOk b) (hk : k < b.length) (hl : i + k < ds.length) (ht : t = c + ds.getD (i + k) 0 + a.getD i 0 * b.getD k 0) (h : TimesS a b ds i k c) :
    TimesS a b (ds.set (i + k) (t % bse)) i (k + 1) (t / bse) ∧ t < bse * bse := by
  obtain ⟨h1, h2, h3, h4⟩ := h
  have ht2 : t < bse * bse := by
    have e1 := dOk_at ha i
    have e2 := dOk_at hb k
    have e3 := dOk_at h1 (i + k)
    have e4 : a.getD i 0 * b.getD k 0 ≤ (bse - 1) * (bse - 1) := Nat.mul_le_mul (by omega) (by omega)
    have e5 : (bse - 1) * (bse - 1) + 2 * (bse - 1) < bse * bse := by decide
    omega
  refine ⟨⟨dOk_set h1 _ _ (Nat.mod_lt _ bse_pos), (Nat.div_lt_iff_lt_mul bse_pos).2 ht2, ?_, fun j hj => ?_⟩, ht2⟩
  · have e := dval_set ds (i + k) (t % bse) hl
    have e1 : bse ^ (i + k) * (t % bse) + bse ^ (i + (k + 1)) * (t / bse) = bse ^ (i + k) * t := by
      rw [show i + (k + 1) = i + k + 1 from by omega, Nat.pow_succ, Nat.mul_assoc, ← Nat.mul_add, split_base]
    have e2 : bse ^ (i + k) * t = bse ^ (i + k) * c + bse ^ (i + k) * ds.getD (i + k) 0 + bse ^ (i + k) * (a.getD i 0 * b.getD k 0) := by
      rw [ht, Nat.mul_add, Nat.mul_add]
    have e3 : bse ^ i * (a.getD i 0 * dval (b.take (k + 1))) = bse ^ i * (a.getD i 0 * dval (b.take k)) + bse ^ (i + k) * (a.getD i 0 * b.getD k 0) := by
      rw [dval_take_succ, Nat.pow_add]
      grind
    omega
  · have : i + k ≠ j := by omega
    simpa [List.getD, List.getElem?_set, this] using h4 j hj
theorem timesS_end {a b ds : List Nat} {i c : Nat} (hl : i + b.length < ds.length) (h : TimesS a b ds i b.length c) : TimesR a b (ds.set (i + b.length) c) (i + 1) := by
  obtain ⟨h1, h2, h3, h4⟩ := h
  refine ⟨dOk_set h1 _ _ h2, ?_, fun j hj => ?_⟩
  · rw [set_add hl (by rw [h4 _ (Nat.le_refl _)]; exact (Nat.zero_add c).symm), h3, List.take_of_length_le (Nat.le_refl _), dval_take_succ]
    grind
  · have : i + b.length ≠ j := by omega
    simpa [List.getD, List.getElem?_set, this] using h4 j (by omega)
theorem timesR_end {a b ds : List Nat} (h : TimesR a b ds a.length) : dval ds = dval a * dval b := by
  have := h.2.1
  rwa [List.take_of_length_le (Nat.le_refl _)] at this

/-- up: the first i digits of the shifted number are laid. -/
def UpR (a ds : List Nat) (s i c : Nat) : Prop := dOk ds ∧ c < 2 ^ s ∧ dval (ds.take i) + bse ^ i * c = 2 ^ s * dval (a.take i)
theorem upR_start (a : List Nat) (s n : Nat) : UpR a (List.replicate n 0) s 0 0 := ⟨dOk_replicate n, Nat.two_pow_pos s, by simp [dval]⟩
theorem upR_next {a ds : List Nat} {s i c t : Nat} (ha : dOk a) (hi : i < ds.length) (ht : t = c + 2 ^ s * a.getD i 0) (h : UpR a ds s i c) : UpR a (ds.set i (t % bse)) s (i + 1) (t / bse) := by
  obtain ⟨h1, h2, h3⟩ := h
  refine ⟨dOk_set h1 _ _ (Nat.mod_lt _ bse_pos), ?_, ?_⟩
  · rw [Nat.div_lt_iff_lt_mul bse_pos]
    have e := dOk_at ha i
    have e1 : 2 ^ s * (a.getD i 0 + 1) ≤ 2 ^ s * bse := Nat.mul_le_mul_left _ e
    rw [Nat.mul_add] at e1
    omega
  · rw [take_set_self hi, dval_take_succ]
    have e1 : bse ^ i * (t % bse) + bse ^ (i + 1) * (t / bse) = bse ^ i * t := by
      rw [Nat.pow_succ, Nat.mul_assoc, ← Nat.mul_add, split_base]
    have e2 : bse ^ i * t = bse ^ i * c + bse ^ i * (2 ^ s * a.getD i 0) := by rw [ht, Nat.mul_add]
    have e3 : 2 ^ s * (dval (a.take i) + bse ^ i * a.getD i 0) = 2 ^ s * dval (a.take i) + bse ^ i * (2 ^ s * a.getD i 0) := by grind
    omega
theorem upR_end {a ds : List Nat} {s c : Nat} (hs : s ≤ 32) (hl : ds.length = a.length + 1) (h : UpR a ds s a.length c) : dOk (ds.set a.length c) ∧ dval (ds.set a.length c) = 2 ^ s * dval a := by
  obtain ⟨h1, h2, h3⟩ := h
  have hp : 2 ^ s ≤ bse := by
    have := Nat.pow_le_pow_right (show 0 < 2 by omega) hs
    simpa [bse] using this
  refine ⟨dOk_set h1 _ _ (by omega), ?_⟩
  have e := take_set_self (l := ds) (k := a.length) (v := c) (by omega)
  rw [List.take_of_length_le (by simp; omega)] at e
  rw [e, h3, List.take_of_length_le (Nat.le_refl _)]

/-- down: the digits from i on have been divided, c is the rest. -/
def DownR (a ds : List Nat) (s i c : Nat) : Prop := dOk ds ∧ c < 2 ^ s ∧ dval (a.drop i) = 2 ^ s * dval (ds.drop i) + c
theorem downR_start (a : List Nat) (s : Nat) : DownR a (List.replicate a.length 0) s a.length 0 := ⟨dOk_replicate _, Nat.two_pow_pos s, by simp [dval]⟩
theorem downR_next {a ds : List Nat} {s i c t : Nat} (ha : dOk a) (hs : s ≤ 32) (hi : i < a.length) (hl : ds.length = a.length) (ht : t = c * bse + a.getD i 0) (h : DownR a ds s (i + 1) c) : DownR a (ds.set i (t / 2 ^ s)) s i (t % 2 ^ s) ∧ t / 2 ^ s < bse := by
  obtain ⟨h1, h2, h3⟩ := h
  have hq : t / 2 ^ s < bse := by
    rw [Nat.div_lt_iff_lt_mul (Nat.two_pow_pos s)]
    have e := dOk_at ha i
    have e1 : (c + 1) * bse ≤ 2 ^ s * bse := Nat.mul_le_mul_right _ h2
    rw [Nat.add_mul] at e1
    rw [Nat.mul_comm bse]
    omega
  refine ⟨⟨dOk_set h1 _ _ hq, Nat.mod_lt _ (Nat.two_pow_pos s), ?_⟩, hq⟩
  have hd : (ds.set i (t / 2 ^ s)).drop i = (t / 2 ^ s) :: ds.drop (i + 1) := by
    rw [List.drop_eq_getElem_cons (by simp; omega)]
    congr 1
    · simp
    · rw [List.drop_set_of_lt (by omega)]
  rw [hd, dval_drop_eq a i hi, h3, dval]
  have e := Nat.mod_add_div t (2 ^ s)
  have e1 : 2 ^ s * (t / 2 ^ s + bse * dval (ds.drop (i + 1))) + t % 2 ^ s = t + bse * (2 ^ s * dval (ds.drop (i + 1))) := by
    rw [Nat.mul_add]
    have : 2 ^ s * (bse * dval (ds.drop (i + 1))) = bse * (2 ^ s * dval (ds.drop (i + 1))) := by grind
    omega
  rw [e1, ht, Nat.mul_add]
  have : c * bse = bse * c := Nat.mul_comm _ _
  omega
theorem downR_end {a ds : List Nat} {s c : Nat} (h : DownR a ds s 0 c) : dval ds = dval a / 2 ^ s := by
  obtain ⟨h1, h2, h3⟩ := h
  simp only [List.drop_zero] at h3
  rw [h3, Nat.mul_add_div (Nat.two_pow_pos s), Nat.div_eq_of_lt h2]
  rfl
end Go.Proofs.Ytklnfhjgbmfilaa

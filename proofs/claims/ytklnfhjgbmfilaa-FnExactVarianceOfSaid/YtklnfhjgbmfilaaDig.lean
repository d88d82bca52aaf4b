/- Numbers of any size by their digits to the base 2^32, the least one first: plain lists of natural numbers. No condition. -/
namespace Go.Proofs.Ytklnfhjgbmfilaa
set_option linter.unusedVariables false

/-- The base. -/
def bse : Nat := 4294967296
theorem bse_eq : bse = 4294967296 := rfl
theorem bse_pos : 0 < bse := by decide
theorem bse_pow_pos (i : Nat) : 0 < bse ^ i := Nat.pow_pos bse_pos

def dval : List Nat → Nat
  | [] => 0
  | d :: ds => d + bse * dval ds
def dOk (l : List Nat) : Prop := ∀ d ∈ l, d < bse

theorem dOk_at {l : List Nat} (h : dOk l) (j : Nat) : l.getD j 0 < bse := by
  rw [List.getD]
  cases hj : l[j]? with
  | none => exact bse_pos
  | some d => exact h d (List.mem_of_getElem? hj)
theorem dOk_nil : dOk [] := fun d hd => by cases hd
theorem dOk_cons {d : Nat} {l : List Nat} : dOk (d :: l) ↔ d < bse ∧ dOk l := by
  unfold dOk; simp
theorem dOk_append {l m : List Nat} : dOk (l ++ m) ↔ dOk l ∧ dOk m := by
  unfold dOk; simp only [List.mem_append]; exact ⟨fun h => ⟨fun d hd => h d (Or.inl hd), fun d hd => h d (Or.inr hd)⟩, fun h d hd => hd.elim (h.1 d) (h.2 d)⟩
theorem dOk_take {l : List Nat} (h : dOk l) (n : Nat) : dOk (l.take n) := fun d hd => h d (List.mem_of_mem_take hd)
theorem dOk_drop {l : List Nat} (h : dOk l) (n : Nat) : dOk (l.drop n) := fun d hd => h d (List.mem_of_mem_drop hd)
theorem dOk_set {l : List Nat} (h : dOk l) (j v : Nat) (hv : v < bse) : dOk (l.set j v) := fun d hd => by
  rcases List.mem_or_eq_of_mem_set hd with h1 | h1
  · exact h d h1
  · rw [h1]; exact hv
theorem dOk_replicate (n : Nat) : dOk (List.replicate n 0) := fun d hd => by
  rw [List.eq_of_mem_replicate hd]; exact bse_pos

theorem dval_append : ∀ l m : List Nat, dval (l ++ m) = dval l + bse ^ l.length * dval m
  | [], m => by simp [dval]
  | d :: l, m => by
    simp only [List.cons_append, dval, dval_append l m, List.length_cons, Nat.pow_succ]
    grind
theorem dval_lt : ∀ {l : List Nat}, dOk l → dval l < bse ^ l.length
  | [], _ => by simp [dval]
  | d :: l, h => by
    have h1 := (dOk_cons.1 h).1
    have h2 := dval_lt (dOk_cons.1 h).2
    simp only [dval, List.length_cons, Nat.pow_succ]
    have h3 : bse * (dval l + 1) ≤ bse * bse ^ l.length := Nat.mul_le_mul_left _ h2
    rw [Nat.mul_comm (bse ^ l.length) bse]
    rw [Nat.mul_add] at h3
    omega
theorem dval_replicate : ∀ n, dval (List.replicate n 0) = 0
  | 0 => rfl
  | n + 1 => by simp [List.replicate_succ, dval, dval_replicate n]
theorem dval_take_succ (l : List Nat) (i : Nat) : dval (l.take (i + 1)) = dval (l.take i) + bse ^ i * l.getD i 0 := by
  by_cases h : i < l.length
  · rw [List.take_succ_eq_append_getElem h, dval_append, List.length_take, Nat.min_eq_left (by omega)]
    simp [dval, List.getD, List.getElem?_eq_getElem h]
  · rw [List.take_of_length_le (by omega), List.take_of_length_le (by omega)]
    simp [List.getD, List.getElem?_eq_none (by omega : l.length ≤ i)]
theorem dval_drop_eq (l : List Nat) (i : Nat) (h : i < l.length) : dval (l.drop i) = l.getD i 0 + bse * dval (l.drop (i + 1)) := by
  rw [List.drop_eq_getElem_cons h]
  simp [dval, List.getD, h]
theorem dval_split (l : List Nat) (i : Nat) (h : i ≤ l.length) : dval l = dval (l.take i) + bse ^ i * dval (l.drop i) := by
  have := dval_append (l.take i) (l.drop i)
  rw [List.take_append_drop, List.length_take, Nat.min_eq_left h] at this
  exact this
theorem dval_set : ∀ (l : List Nat) (j v : Nat), j < l.length → dval (l.set j v) + bse ^ j * l.getD j 0 = dval l + bse ^ j * v
  | [], j, v, h => by simp at h
  | d :: l, 0, v, h => by simp [dval]; omega
  | d :: l, j + 1, v, h => by
    have ih := dval_set l j v (by simpa using h)
    simp only [List.set_cons_succ, dval, List.getD_cons_succ, Nat.pow_succ]
    have e1 : bse ^ j * bse * l.getD j 0 = bse * (bse ^ j * l.getD j 0) := by grind
    have e2 : bse ^ j * bse * v = bse * (bse ^ j * v) := by grind
    rw [e1, e2]
    have e3 : bse * (dval (l.set j v) + bse ^ j * l.getD j 0) = bse * (dval l + bse ^ j * v) := by rw [ih]
    rw [Nat.mul_add, Nat.mul_add] at e3
    omega
theorem dval_zero_iff {l : List Nat} : dval l = 0 → ∀ j, l.getD j 0 = 0 := by
  induction l with
  | nil => intro _ j; rfl
  | cons d l ih =>
    intro h j
    simp only [dval] at h
    have h1 : d = 0 := by omega
    have h2 : bse * dval l = 0 := by omega
    have h3 : dval l = 0 := by
      rcases Nat.mul_eq_zero.1 h2 with h | h
      · exact absurd h (by decide)
      · exact h
    cases j with
    | zero => simpa using h1
    | succ j => simpa using ih h3 j

/-- The digits of a number, the last one not 0. -/
def digs (n : Nat) : List Nat := if h : n = 0 then [] else (n % bse) :: digs (n / bse)
termination_by n
decreasing_by exact Nat.div_lt_self (by omega) (by decide)
theorem digs_zero : digs 0 = [] := by rw [digs]; simp
theorem digs_pos {n : Nat} (h : n ≠ 0) : digs n = (n % bse) :: digs (n / bse) := by rw [digs]; simp [h]
theorem dval_digs (n : Nat) : dval (digs n) = n := by
  induction n using Nat.strongRecOn with
  | _ n ih =>
    by_cases h : n = 0
    · subst h; rw [digs_zero]; rfl
    · rw [digs_pos h, dval, ih _ (Nat.div_lt_self (by omega) (by decide))]
      exact Nat.mod_add_div n bse
theorem digs_ok (n : Nat) : dOk (digs n) := by
  induction n using Nat.strongRecOn with
  | _ n ih =>
    by_cases h : n = 0
    · subst h; rw [digs_zero]; exact dOk_nil
    · rw [digs_pos h, dOk_cons]
      exact ⟨Nat.mod_lt _ bse_pos, ih _ (Nat.div_lt_self (by omega) (by decide))⟩
theorem digs_cons {d n : Nat} (hd : d < bse) (h : d + bse * n ≠ 0) : digs (d + bse * n) = d :: digs n := by
  rw [digs_pos h]
  congr 1
  · rw [Nat.add_mul_mod_self_left, Nat.mod_eq_of_lt hd]
  · congr 1
    rw [Nat.add_mul_div_left _ _ bse_pos, Nat.div_eq_of_lt hd, Nat.zero_add]
/-- A list of digits that does not end with 0 is the number's. -/
theorem canon : ∀ {l : List Nat}, dOk l → (l = [] ∨ l.getD (l.length - 1) 0 ≠ 0) → l = digs (dval l)
  | [], _, _ => by simp [dval, digs_zero]
  | [d], h, hl => by
    have hd : d ≠ 0 := by simpa using hl
    have h1 := (dOk_cons.1 h).1
    have e : dval [d] = d + bse * 0 := by simp [dval]
    rw [e, digs_cons h1 (by omega), digs_zero]
  | d :: c :: l, h, hl => by
    have h1 := (dOk_cons.1 h).1
    have hne : (c :: l).getD ((c :: l).length - 1) 0 ≠ 0 := by
      rcases hl with hl | hl
      · cases hl
      · simpa using hl
    have ih := canon (dOk_cons.1 h).2 (Or.inr hne)
    have hnz : dval (c :: l) ≠ 0 := fun e => hne (dval_zero_iff e _)
    have hb : bse ≤ bse * dval (c :: l) := Nat.le_mul_of_pos_right _ (by omega)
    have := bse_pos
    rw [show dval (d :: c :: l) = d + bse * dval (c :: l) from rfl, digs_cons h1 (by omega), ← ih]
/-- What is left when zeros at the end are dropped. -/
theorem trim_eq {l : List Nat} {n : Nat} (h : dOk l) (hn : n ≤ l.length) (hz : ∀ j, n ≤ j → j < l.length → l.getD j 0 = 0) (hl : n = 0 ∨ l.getD (n - 1) 0 ≠ 0) : l.take n = digs (dval l) := by
  have hlen : (l.take n).length = n := by simp; omega
  have hd : dval (l.drop n) = 0 := by
    have : ∀ m : List Nat, (∀ j, j < m.length → m.getD j 0 = 0) → dval m = 0 := by
      intro m
      induction m with
      | nil => intro _; rfl
      | cons d m ih =>
        intro hm
        have h0 := hm 0 (by simp)
        have := ih (fun j hj => by simpa using hm (j + 1) (by simpa using hj))
        simp only [dval, this, Nat.mul_zero, Nat.add_zero]
        simpa using h0
    refine this _ fun j hj => ?_
    have := hz (n + j) (by omega) (by simp at hj; omega)
    simpa [List.getD, List.getElem?_drop] using this
  have e : dval l = dval (l.take n) := by rw [dval_split l n hn, hd]; simp
  rw [e]
  refine canon (dOk_take h n) ?_
  rcases hl with hl | hl
  · left; subst hl; rfl
  · right
    rw [hlen]
    have hn0 : n ≠ 0 := fun e => by
      subst e
      apply hl
      exact hz 0 (by omega) (by
        rcases Nat.lt_or_ge 0 l.length with h | h
        · exact h
        · exfalso; apply hl; simp [List.getD, List.getElem?_eq_none (show l.length ≤ 0 - 1 by omega)])
    simpa [List.getD, List.getElem?_take, show n - 1 < n by omega] using hl
theorem digs_len_le {n k : Nat} (h : n < bse ^ k) : (digs n).length ≤ k := by
  induction k generalizing n with
  | zero =>
    have : n = 0 := by simp at h; exact h
    subst this; simp [digs_zero]
  | succ k ih =>
    by_cases h0 : n = 0
    · subst h0; simp [digs_zero]
    · rw [digs_pos h0, List.length_cons]
      have : n / bse < bse ^ k := by
        rw [Nat.div_lt_iff_lt_mul bse_pos]
        rw [Nat.pow_succ] at h
        exact h
      have := ih this
      omega
theorem digs_last (n : Nat) (h : n ≠ 0) : (digs n).getD ((digs n).length - 1) 0 ≠ 0 := by
  induction n using Nat.strongRecOn with
  | _ n ih =>
    rw [digs_pos h]
    by_cases h1 : n / bse = 0
    · rw [h1, digs_zero]
      have h2 : n % bse = n := by
        have := Nat.mod_add_div n bse
        rw [h1] at this
        simpa using this
      simpa [h2] using h
    · have hlt := Nat.div_lt_self (show 0 < n by omega) (show 1 < bse by decide)
      have := ih _ hlt h1
      have hlen : (digs (n / bse)).length ≠ 0 := fun e => this (by simp [List.eq_nil_of_length_eq_zero e])
      obtain ⟨m, hm⟩ : ∃ m, (digs (n / bse)).length = m + 1 := ⟨(digs (n / bse)).length - 1, by omega⟩
      rw [hm] at this
      simp only [List.length_cons, hm]
      simpa using this
theorem digs_ge {n : Nat} (h : n ≠ 0) : bse ^ ((digs n).length - 1) ≤ n := by
  have h1 := digs_last n h
  have hlen : (digs n).length ≠ 0 := fun e => h1 (by simp [List.eq_nil_of_length_eq_zero e])
  have h2 := dval_take_succ (digs n) ((digs n).length - 1)
  rw [show (digs n).length - 1 + 1 = (digs n).length from by omega, List.take_length, dval_digs] at h2
  have h3 : bse ^ ((digs n).length - 1) * 1 ≤ bse ^ ((digs n).length - 1) * (digs n).getD ((digs n).length - 1) 0 := Nat.mul_le_mul_left _ (by omega)
  omega
theorem digs_nil_iff {n : Nat} : digs n = [] ↔ n = 0 := by
  constructor
  · intro h
    have := dval_digs n
    rw [h] at this
    exact this.symm
  · rintro rfl; exact digs_zero
theorem digs_len_zero {n : Nat} : (digs n).length = 0 ↔ n = 0 := by
  rw [List.length_eq_zero_iff, digs_nil_iff]
theorem digs_len_pos {n : Nat} (h : 0 < n) : 0 < (digs n).length := by
  have := (digs_len_zero (n := n)).1
  omega
theorem digs_lt (n : Nat) : n < bse ^ (digs n).length := by
  have := dval_lt (digs_ok n)
  rwa [dval_digs] at this
/-- More digits, a greater number. -/
theorem digs_len_lt {m n : Nat} (h : (digs m).length < (digs n).length) : m < n := by
  have hn : n ≠ 0 := fun e => by subst e; simp [digs_zero] at h
  have h1 := digs_lt m
  have h2 := digs_ge hn
  have h3 : bse ^ (digs m).length ≤ bse ^ ((digs n).length - 1) := Nat.pow_le_pow_right bse_pos (by omega)
  omega
theorem digs_len_mono {m n : Nat} (h : m ≤ n) : (digs m).length ≤ (digs n).length := by
  rcases Nat.lt_or_ge (digs n).length (digs m).length with h1 | h1
  · have := digs_len_lt h1; omega
  · exact h1
/-- The greatest digit in which numbers of the same length differ decides. -/
theorem cmp_at {l m : List Nat} {i : Nat} (hl : dOk l) (hm : dOk m) (hlen : l.length = m.length) (hi : i < l.length) (hs : ∀ j, i < j → j < l.length → l.getD j 0 = m.getD j 0) (hlt : l.getD i 0 < m.getD i 0) : dval l < dval m := by
  have he : l.drop (i + 1) = m.drop (i + 1) := by
    apply List.ext_getElem?
    intro j
    rw [List.getElem?_drop, List.getElem?_drop]
    by_cases hj : i + 1 + j < l.length
    · have := hs (i + 1 + j) (by omega) hj
      rw [List.getElem?_eq_getElem hj, List.getElem?_eq_getElem (by omega)]
      simp only [List.getD, List.getElem?_eq_getElem hj, List.getElem?_eq_getElem (show i + 1 + j < m.length by omega), Option.getD_some] at this
      rw [this]
    · rw [List.getElem?_eq_none (by omega), List.getElem?_eq_none (by omega)]
  have h1 := dval_split l (i + 1) (by omega)
  have h2 := dval_split m (i + 1) (by omega)
  rw [dval_take_succ] at h1 h2
  rw [he] at h1
  have h3 := dval_lt (dOk_take hl i)
  rw [List.length_take, Nat.min_eq_left (by omega)] at h3
  have h4 : bse ^ i * (l.getD i 0 + 1) ≤ bse ^ i * m.getD i 0 := Nat.mul_le_mul_left _ hlt
  rw [Nat.mul_add] at h4
  omega
end Go.Proofs.Ytklnfhjgbmfilaa

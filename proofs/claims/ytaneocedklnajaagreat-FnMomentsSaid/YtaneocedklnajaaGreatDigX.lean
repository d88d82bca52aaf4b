
/- Numbers of any size by their digits to the base 2^32, the least one first: plain lists of natural numbers. No condition. -/
namespace Go.Proofs.YtaneocedklnajaaGreat
set_option linter.unusedVariables false

/-- The base. -/
def bse : Nat := 4294967296
theorem bse_eq : bse = 4294967296 := rfl
theorem bse_pos : 0 < bse := by decide
theorem bse_pow_pos (i : Nat) : 0 < bse ^ i := Nat.pow_pos bse_pos

def dval : List Nat → Nat
  | [] => 0
  | d :: ds => d + bse * dval ds
def dOk (l : List Nat) : Prop := ∀ d ∈ l, d < bse

theorem dOk_at {l : List Nat} (h : dOk l) (j : Nat) : l.getD j 0 < bse := by
  rw [List.getD]
  cases hj : l[j]? with
  | none => exact bse_pos
  | some d => exact h d (List.mem_of_getElem? hj)
theorem dOk_nil : dOk [] := fun d hd => by cases hd
theorem dOk_cons {d : Nat} {l : List Nat} : dOk (d :: l) ↔ d < bse ∧ dOk l := by
  unfold dOk; simp
theorem dOk_append {l m : List Nat} : dOk (l ++ m) ↔ dOk l ∧ dOk m := by
  unfold dOk; simp only [List.mem_append]; exact ⟨fun h => ⟨fun d hd => h d (Or.inl hd), fun d hd => h d (Or.inr hd)⟩, fun h d hd => hd.elim (h.1 d) (h.2 d)⟩
theorem dOk_take {l : List Nat} (h : dOk l) (n : Nat) : dOk (l.take n) := fun d hd => h d (List.mem_of_mem_take hd)
theorem dOk_drop {l : List Nat} (h : dOk l) (n : Nat) : dOk (l.drop n) := fun d hd => h d (List.mem_of_mem_drop hd)
theorem dOk_set {l : List Nat} (h : dOk l) (j v : Nat) (hv : v < bse) : dOk (l.set j v) := fun d hd => by
  rcases List.mem_or_eq_of_mem_set hd with h1 | h1
  · exact h d h1
  · rw [h1]; exact hv
theorem dOk_replicate (n : Nat) : dOk (List.replicate n 0) := fun d hd => by
  rw [List.eq_of_mem_replicate hd]; exact bse_pos

theorem dval_append : ∀ l m : List Nat, dval (l ++ m) = dval l + bse ^ l.length * dval m
  | [], m => by simp [dval]
  | d :: l, m => by
    simp only [List.cons_append, dval, dval_append l m, List.length_cons, Nat.pow_succ]
    grind
theorem dval_lt : ∀ {l : List Nat}, dOk l → dval l < bse ^ l.length
  | [], _ => by simp [dval]
  | d :: l, h => by
    have h1 := (dOk_cons.1 h).1
    have h2 := dval_lt (dOk_cons.1 h).2
    simp only [dval, List.length_cons, Nat.pow_succ]
    have h3 : bse * (dval l + 1) ≤ bse * bse ^ l.length := Nat.mul_le_mul_left _ h2
    rw [Nat.mul_comm (bse ^ l.length) bse]
    rw [Nat.mul_add] at h3
    omega
theorem dval_replicate : ∀ n, dval (List.replicate n 0) = 0
  | 0 => rfl
  | n + 1 => by simp [List.replicate_succ, dval, dval_replicate n]
theorem dval_take_succ (l : List Nat) (i : Nat) : dval (l.take (i + 1)) = dval (l.take i) + bse ^ i * l.getD i 0 := by
  by_cases h : i < l.length
  · rw [List.take_succ_eq_append_getElem h, dval_append, List.length_take, Nat.min_eq_left (by omega)]
    simp [dval, List.getD, List.getElem?_eq_getElem h]
  · rw [List.take_of_length_le (by omega), List.take_of_length_le (by omega)]
    simp [List.getD, List.getElem?_eq_none (by omega : l.length ≤ i)]
theorem dval_drop_eq (l : List Nat) (i : Nat) (h : i < l.length) : dval (l.drop i) = l.getD i 0 + bse * dval (l.drop (i + 1)) := by
  rw [List.drop_eq_getElem_cons h]
  simp [dval, List.getD, h]
theorem dval_split (l : List Nat) (i : Nat) (h : i ≤ l.length) : dval l = dval (l.take i) + bse ^ i * dval (l.drop i) := by
  have := dval_append (l.take i) (l.drop i)
  rw [List.take_append_drop, List.length_take, Nat.min_eq_left h] at this
  exact this
theorem dval_set : ∀ (l : List Nat) (j v : Nat), j < l.length → dval (l.set j v) + bse ^ j * l.getD j 0 = dval l + bse ^ j * v
  | [], j, v, h => by simp at h
  | d :: l, 0, v, h => by simp [dval]; omega
  | d :: l, j + 1, v, h => by
    have ih := dval_set l j v (by simpa using h)
    simp only [List.set_cons_succ, dval, List.getD_cons_succ, Nat.pow_succ]
    have e1 : bse ^ j * bse * l.getD j 0 = bse * (bse ^ j * l.getD j 0) := by grind
    have e2 : bse ^ j * bse * v = bse * (bse ^ j * v) := by grind
    rw [e1, e2]
    have e3 : bse * (dval (l.set j v) + bse ^ j * l.getD j 0) = bse * (dval l + bse ^ j * v) := by rw [ih]
    rw [Nat.mul_add, Nat.mul_add] at e3
    omega
theorem dval_zero_iff {l : List Nat} : dval l = 0 → ∀ j, l.getD j 0 = 0 := by
  induction l with
  | nil => intro _ j; rfl
  | cons d l ih =>
    intro h j
    simp only [dval] at h
    have h1 : d = 0 := by omega
    have h2 : bse * dval l = 0 := by omega
    have h3 : dval l = 0 := by
      rcases Nat.mul_eq_zero.1 h2 with h | h
      · exact absurd h (by decide)
      · exact h
    cases j with
    | zero => simpa using h1
    | succ j => simpa using ih h3 j

/-- The digits of a number, the last one not 0. -/
def digs (n : Nat) : List Nat := if h : n = 0 then [] else (n % bse) :: digs (n / bse)
termination_by n
decreasing_by exact Nat.div_lt_self (by omega) (by decide)
theorem digs_zero : digs 0 = [] := by rw [digs]; simp
theorem digs_pos {n : Nat} (h : n ≠ 0) : digs n = (n % bse) :: digs (n / bse) := by rw [digs]; simp [h]
theorem dval_digs (n : Nat) : dval (digs n) = n := by
  induction n using Nat.strongRecOn with
  | _ n ih =>
    by_cases h : n = 0
    · subst h; rw [digs_zero]; rfl
    · rw [digs_pos h, dval, ih _ (Nat.div_lt_self (by omega) (by decide))]
      exact Nat.mod_add_div n bse
theorem digs_ok (n : Nat) : dOk (digs n) := by
  induction n using Nat.strongRecOn with
  | _ n ih =>
    by_cases h : n = 0
    · subst h; rw [digs_zero]; exact dOk_nil
    · rw [digs_pos h, dOk_cons]
      exact ⟨Nat.mod_lt _ bse_pos, ih _ (Nat.div_lt_self (by omega) (by decide))⟩
theorem digs_cons {d n : Nat} (hd : d < bse) (h : d + bse * n ≠ 0) : digs (d + bse * n) = d :: digs n := by
  rw [digs_pos h]
  congr 1
  · rw [Nat.add_mul_mod_self_left, Nat.mod_eq_of_lt hd]
  · congr 1
    rw [Nat.add_mul_div_left _ _ bse_pos, Nat.div_eq_of_lt hd, Nat.zero_add]
/-- A list of digits that does not end with 0 is the number's. -/
theorem canon : ∀ {l : List Nat}, dOk l → (l = [] ∨ l.getD (l.length - 1) 0 ≠ 0) → l = digs (dval l)
  | [], _, _ => by simp [dval, digs_zero]
  | [d], h, hl => by
    have hd : d ≠ 0 := by simpa using hl
    have h1 := (dOk_cons.1 h).1
    have e : dval [d] = d + bse * 0 := by simp [dval]
    rw [e, digs_cons h1 (by omega), digs_zero]
  | d :: c :: l, h, hl => by
    have h1 := (dOk_cons.1 h).1
    have hne : (c :: l).getD ((c :: l).length - 1) 0 ≠ 0 := by
      rcases hl with hl | hl
      · cases hl
      · simpa using hl
    have ih := canon (dOk_cons.1 h).2 (Or.inr hne)
    have hnz : dval (c :: l) ≠ 0 := fun e => hne (dval_zero_iff e _)
    have hb : bse ≤ bse * dval (c :: l) := Nat.le_mul_of_pos_right _ (by omega)
    have := bse_pos
    rw [show dval (d :: c :: l) = d + bse * dval (c :: l) from rfl, digs_cons h1 (by omega), ← ih]
/-- What is left when zeros at the end are dropped. -/
theorem trim_eq {l : List Nat} {n : Nat} (h : dOk l) (hn : n ≤ l.length) (hz : ∀ j, n ≤ j → j < l.length → l.getD j 0 = 0) (hl : n = 0 ∨ l.getD (n - 1) 0 ≠ 0) : l.take n = digs (dval l) := by
  have hlen : (l.take n).length = n := by simp; omega
  have hd : dval (l.drop n) = 0 := by
    have : ∀ m : List Nat, (∀ j, j < m.length → m.getD j 0 = 0) → dval m = 0 := by
      intro m
      induction m with
      | nil => intro _; rfl
      | cons d m ih =>
        intro hm
        have h0 := hm 0 (by simp)
        have := ih (fun j hj => by simpa using hm (j + 1) (by simpa using hj))
        simp only [dval, this, Nat.mul_zero, Nat.add_zero]
        simpa using h0
    refine this _ fun j hj => ?_
    have := hz (n + j) (by omega) (by simp at hj; omega)
    simpa [List.getD, List.getElem?_drop] using this
  have e : dval l = dval (l.take n) := by rw [dval_split l n hn, hd]; simp
  rw [e]
  refine canon (dOk_take h n) ?_
  rcases hl with hl | hl
  · left; subst hl; rfl
  · right
    rw [hlen]
    have hn0 : n ≠ 0 := fun e => by
      subst e
      apply hl
      exact hz 0 (by omega) (by
        rcases Nat.lt_or_ge 0 l.length with h | h
        · exact h
        · exfalso; apply hl; simp [List.getD, List.getElem?_eq_none (show l.length ≤ 0 - 1 by omega)])
    simpa [List.getD, List.getElem?_take, show n - 1 < n by omega] using hl
theorem digs_len_le {n k : Nat} (h : n < bse ^ k) : (digs n).length ≤ k := by
  induction k generalizing n with
  | zero =>
    have : n = 0 := by simp at h; exact h
    subst this; simp [digs_zero]
  | succ k ih =>
    by_cases h0 : n = 0
    · subst h0; simp [digs_zero]
    · rw [digs_pos h0, List.length_cons]
      have : n / bse < bse ^ k := by
        rw [Nat.div_lt_iff_lt_mul bse_pos]
        rw [Nat.pow_succ] at h
        exact h
      have := ih this
      omega
theorem digs_last (n : Nat) (h : n ≠ 0) : (digs n).getD ((digs n).length - 1) 0 ≠ 0 := by
  induction n using Nat.strongRecOn with
  | _ n ih =>
    rw [digs_pos h]
    by_cases h1 : n / bse = 0
    · rw [h1, digs_zero]
      have h2 : n % bse = n := by
        have := Nat.mod_add_div n bse
        rw [h1] at this
        simpa using this
      simpa [h2] using h
    · have hlt := Nat.div_lt_self (show 0 < n by omega) (show 1 < bse by decide)
      have := ih _ hlt h1
      have hlen : (digs (n / bse)).length ≠ 0 := fun e => this (by simp [List.eq_nil_of_length_eq_zero e])
      obtain ⟨m, hm⟩ : ∃ m, (digs (n / bse)).length = m + 1 := ⟨(digs (n / bse)).length - 1, by omega⟩
      rw [hm] at this
      simp only [List.length_cons, hm]
      simpa using this
theorem digs_ge {n : Nat} (h : n ≠ 0) : bse ^ ((digs n).length - 1) ≤ n := by
  have h1 := digs_last n h
  have hlen : (digs n).length ≠ 0 := fun e => h1 (by simp [List.eq_nil_of_length_eq_zero e])
  have h2 := dval_take_succ (digs n) ((digs n).length - 1)
  rw [show (digs n).length - 1 + 1 = (digs n).length from by omega, List.take_length, dval_digs] at h2
  have h3 : bse ^ ((digs n).length - 1) * 1 ≤ bse ^ ((digs n).length - 1) * (digs n).getD ((digs n).length - 1) 0 := Nat.mul_le_mul_left _ (by omega)
  omega
theorem digs_nil_iff {n : Nat} : digs n = [] ↔ n = 0 := by
  constructor
  · intro h
    have := dval_digs n
    rw [h] at this
    exact this.symm
  · rintro rfl; exact digs_zero
theorem digs_len_zero {n : Nat} : (digs n).length = 0 ↔ n = 0 := by
  rw [List.length_eq_zero_iff, digs_nil_iff]
theorem digs_len_pos {n : Nat} (h : 0 < n) : 0 < (digs n).length := by
  have := (digs_len_zero (n := n)).1
  omega
theorem digs_lt (n : Nat) : n < bse ^ (digs n).length := by
  have := dval_lt (digs_ok n)
  rwa [dval_digs] at this
/-- More digits, a greater number. -/
theorem digs_len_lt {m n : Nat} (h : (digs m).length < (digs n).length) : m < n := by
  have hn : n ≠ 0 := fun e => by subst e; simp [digs_zero] at h
  have h1 := digs_lt m
  have h2 := digs_ge hn
  have h3 : bse ^ (digs m).length ≤ bse ^ ((digs n).length - 1) := Nat.pow_le_pow_right bse_pos (by omega)
  omega
theorem digs_len_mono {m n : Nat} (h : m ≤ n) : (digs m).length ≤ (digs n).length := by
  rcases Nat.lt_or_ge (digs n).length (digs m).length with h1 | h1
  · have := digs_len_lt h1; omega
  · exact h1
/-- The greatest digit in which numbers of the same length differ decides. -/
theorem cmp_at {l m : List Nat} {i : Nat} (hl : dOk l) (hm : dOk m) (hlen : l.length = m.length) (hi : i < l.length) (hs : ∀ j, i < j → j < l.length → l.getD j 0 = m.getD j 0) (hlt : l.getD i 0 < m.getD i 0) : dval l < dval m := by
  have he : l.drop (i + 1) = m.drop (i + 1) := by
    apply List.ext_getElem?
    intro j
    rw [List.getElem?_drop, List.getElem?_drop]
    by_cases hj : i + 1 + j < l.length
    · have := hs (i + 1 + j) (by omega) hj
      rw [List.getElem?_eq_getElem hj, List.getElem?_eq_getElem (by omega)]
      simp only [List.getD, List.getElem?_eq_getElem hj, List.getElem?_eq_getElem (show i + 1 + j < m.length by omega), Option.getD_some] at this
      rw [this]
    · rw [List.getElem?_eq_none (by omega), List.getElem?_eq_none (by omega)]
  have h1 := dval_split l (i + 1) (by omega)
  have h2 := dval_split m (i + 1) (by omega)
  rw [dval_take_succ] at h1 h2
  rw [he] at h1
  have h3 := dval_lt (dOk_take hl i)
  rw [List.length_take, Nat.min_eq_left (by omega)] at h3
  have h4 : bse ^ i * (l.getD i 0 + 1) ≤ bse ^ i * m.getD i 0 := Nat.mul_le_mul_left _ hlt
  rw [Nat.mul_add] at h4
  omega
end Go.Proofs.YtaneocedklnajaaGreat
/- The loops of the operations on digits: what holds in the middle of each, and that it holds behind one more round. -/
namespace Go.Proofs.YtaneocedklnajaaGreat
set_option linter.unusedVariables false

theorem split_base (c : Nat) : c % bse + bse * (c / bse) = c := Nat.mod_add_div c bse
theorem take_set_self {l : List Nat} {k v : Nat} (hk : k < l.length) : dval ((l.set k v).take (k + 1)) = dval (l.take k) + bse ^ k * v := by
  rw [dval_take_succ, List.take_set_of_le (Nat.le_refl k)]
  simp [List.getD, hk]

/-- plus: the first k digits of the sum are laid, c is the carry. -/
def PlusR (a b ds : List Nat) (k c : Nat) : Prop := dOk ds ∧ c ≤ 1 ∧ dval (ds.take k) + bse ^ k * c = dval (a.take k) + dval (b.take k)
theorem plusR_start (a b : List Nat) (n : Nat) : PlusR a b (List.replicate n 0) 0 0 := ⟨dOk_replicate n, by omega, by simp [dval]⟩
theorem plusR_next {a b ds : List Nat} {k c : Nat} (ha : dOk a) (hb : dOk b) (hk : k < ds.length) (h : PlusR a b ds k c) :
    PlusR a b (ds.set k ((c + a.getD k 0 + b.getD k 0) % bse)) (k + 1) ((c + a.getD k 0 + b.getD k 0) / bse) := by
  obtain ⟨h1, h2, h3⟩ := h
  refine ⟨dOk_set h1 _ _ (Nat.mod_lt _ bse_pos), ?_, ?_⟩
  · have : (c + a.getD k 0 + b.getD k 0) / bse < 2 := by
      rw [Nat.div_lt_iff_lt_mul bse_pos]
      have := bse_eq
      have := dOk_at ha k
      have := dOk_at hb k
      omega
    omega
  · rw [take_set_self hk, dval_take_succ, dval_take_succ]
    have e := split_base (c + a.getD k 0 + b.getD k 0)
    have e1 : bse ^ k * ((c + a.getD k 0 + b.getD k 0) % bse) + bse ^ (k + 1) * ((c + a.getD k 0 + b.getD k 0) / bse) = bse ^ k * (c + a.getD k 0 + b.getD k 0) := by
      rw [Nat.pow_succ, Nat.mul_assoc, ← Nat.mul_add, e]
    rw [Nat.mul_add, Nat.mul_add] at e1
    omega
theorem plusR_end {a b ds : List Nat} {n c : Nat} (ha : dOk a) (hb : dOk b) (hba : b.length ≤ a.length) (hn : n = a.length + 1) (hds : ds.length = n) (h : PlusR a b ds n c) : dval ds = dval a + dval b := by
  obtain ⟨h1, h2, h3⟩ := h
  rw [List.take_of_length_le (by omega), List.take_of_length_le (by omega), List.take_of_length_le (by omega)] at h3
  have ha2 := dval_lt ha
  have hb2 := dval_lt hb
  have hp : bse ^ b.length ≤ bse ^ a.length := Nat.pow_le_pow_right bse_pos hba
  have hq : bse ^ n = bse ^ a.length * bse := by rw [hn, Nat.pow_succ]
  have hr : bse ^ a.length * 2 ≤ bse ^ a.length * bse := Nat.mul_le_mul_left _ (by decide)
  rcases Nat.eq_zero_or_pos c with hc | hc
  · subst hc; simpa using h3
  · have hc1 : c = 1 := by omega
    subst hc1
    omega

/-- minus: the first k digits of the difference are laid, r is owed. -/
def MinusR (a b ds : List Nat) (k r : Nat) : Prop := dOk ds ∧ r ≤ 1 ∧ dval (ds.take k) + dval (b.take k) = dval (a.take k) + bse ^ k * r
theorem minusR_start (a b : List Nat) (n : Nat) : MinusR a b (List.replicate n 0) 0 0 := ⟨dOk_replicate n, by omega, by simp [dval]⟩
theorem minusR_next {a b ds : List Nat} {k r d r' : Nat} (hd : d < bse) (hr : r' ≤ 1) (he : d + r + b.getD k 0 = a.getD k 0 + bse * r') (hk : k < ds.length) (h : MinusR a b ds k r) : MinusR a b (ds.set k d) (k + 1) r' := by
  obtain ⟨h1, h2, h3⟩ := h
  refine ⟨dOk_set h1 _ _ hd, hr, ?_⟩
  rw [take_set_self hk, dval_take_succ, dval_take_succ]
  have e : bse ^ k * (d + r + b.getD k 0) = bse ^ k * a.getD k 0 + bse ^ (k + 1) * r' := by rw [he, Nat.mul_add, Nat.pow_succ, Nat.mul_assoc]
  rw [Nat.mul_add, Nat.mul_add] at e
  omega
theorem minusR_end {a b ds : List Nat} {r : Nat} (ha : dOk a) (hle : dval b ≤ dval a) (hb : b.length ≤ a.length) (hds : ds.length = a.length) (h : MinusR a b ds a.length r) : dval ds = dval a - dval b := by
  obtain ⟨h1, h2, h3⟩ := h
  rw [List.take_of_length_le (by omega), List.take_of_length_le (by omega), List.take_of_length_le (by omega)] at h3
  have h4 := dval_lt h1
  rw [hds] at h4
  rcases Nat.eq_zero_or_pos r with hr | hr
  · subst hr; omega
  · have : r = 1 := by omega
    subst this
    omega

/-- times: i digits of a have been multiplied; in the round, k digits of b, with the carry. -/
def TimesR (a b ds : List Nat) (i : Nat) : Prop := dOk ds ∧ dval ds = dval (a.take i) * dval b ∧ ∀ j, i + b.length ≤ j → ds.getD j 0 = 0
def TimesS (a b ds : List Nat) (i k c : Nat) : Prop := dOk ds ∧ c < bse ∧ dval ds + bse ^ (i + k) * c = dval (a.take i) * dval b + bse ^ i * (a.getD i 0 * dval (b.take k)) ∧ ∀ j, i + b.length ≤ j → ds.getD j 0 = 0
theorem getD_replicate_zero (n j : Nat) : (List.replicate n (0 : Nat)).getD j 0 = 0 := by
  simp only [List.getD, List.getElem?_replicate]
  split <;> rfl
theorem timesR_start (a b : List Nat) (n : Nat) : TimesR a b (List.replicate n 0) 0 := ⟨dOk_replicate n, by simp [dval, dval_replicate], fun j _ => getD_replicate_zero n j⟩
theorem timesS_start {a b ds : List Nat} {i : Nat} (h : TimesR a b ds i) : TimesS a b ds i 0 0 := ⟨h.1, bse_pos, by rw [h.2.1]; simp [dval], h.2.2⟩
theorem set_add {l : List Nat} {j v w : Nat} (hj : j < l.length) (hv : v = l.getD j 0 + w) : dval (l.set j v) = dval l + bse ^ j * w := by
  have := dval_set l j v hj
  rw [hv, Nat.mul_add] at this
  rw [hv]
  omega
theorem timesS_next {a b ds : List Nat} {i k c t : Nat} (ha : dOk a) (hb : dOk b) (hk : k < b.length) (hl : i + k < ds.length) (ht : t = c + ds.getD (i + k) 0 + a.getD i 0 * b.getD k 0) (h : TimesS a b ds i k c) :
    TimesS a b (ds.set (i + k) (t % bse)) i (k + 1) (t / bse) ∧ t < bse * bse := by
  obtain ⟨h1, h2, h3, h4⟩ := h
  have ht2 : t < bse * bse := by
    have e1 := dOk_at ha i
    have e2 := dOk_at hb k
    have e3 := dOk_at h1 (i + k)
    have e4 : a.getD i 0 * b.getD k 0 ≤ (bse - 1) * (bse - 1) := Nat.mul_le_mul (by omega) (by omega)
    have e5 : (bse - 1) * (bse - 1) + 2 * (bse - 1) < bse * bse := by decide
    omega
  refine ⟨⟨dOk_set h1 _ _ (Nat.mod_lt _ bse_pos), (Nat.div_lt_iff_lt_mul bse_pos).2 ht2, ?_, fun j hj => ?_⟩, ht2⟩
  · have e := dval_set ds (i + k) (t % bse) hl
    have e1 : bse ^ (i + k) * (t % bse) + bse ^ (i + (k + 1)) * (t / bse) = bse ^ (i + k) * t := by
      rw [show i + (k + 1) = i + k + 1 from by omega, Nat.pow_succ, Nat.mul_assoc, ← Nat.mul_add, split_base]
    have e2 : bse ^ (i + k) * t = bse ^ (i + k) * c + bse ^ (i + k) * ds.getD (i + k) 0 + bse ^ (i + k) * (a.getD i 0 * b.getD k 0) := by
      rw [ht, Nat.mul_add, Nat.mul_add]
    have e3 : bse ^ i * (a.getD i 0 * dval (b.take (k + 1))) = bse ^ i * (a.getD i 0 * dval (b.take k)) + bse ^ (i + k) * (a.getD i 0 * b.getD k 0) := by
      rw [dval_take_succ, Nat.pow_add]
      grind
    omega
  · have : i + k ≠ j := by omega
    simpa [List.getD, List.getElem?_set, this] using h4 j hj
theorem timesS_end {a b ds : List Nat} {i c : Nat} (hl : i + b.length < ds.length) (h : TimesS a b ds i b.length c) : TimesR a b (ds.set (i + b.length) c) (i + 1) := by
  obtain ⟨h1, h2, h3, h4⟩ := h
  refine ⟨dOk_set h1 _ _ h2, ?_, fun j hj => ?_⟩
  · rw [set_add hl (by rw [h4 _ (Nat.le_refl _)]; exact (Nat.zero_add c).symm), h3, List.take_of_length_le (Nat.le_refl _), dval_take_succ]
    grind
  · have : i + b.length ≠ j := by omega
    simpa [List.getD, List.getElem?_set, this] using h4 j (by omega)
theorem timesR_end {a b ds : List Nat} (h : TimesR a b ds a.length) : dval ds = dval a * dval b := by
  have := h.2.1
  rwa [List.take_of_length_le (Nat.le_refl _)] at this

/-- up: the first i digits of the shifted number are laid. -/
def UpR (a ds : List Nat) (s i c : Nat) : Prop := dOk ds ∧ c < 2 ^ s ∧ dval (ds.take i) + bse ^ i * c = 2 ^ s * dval (a.take i)
theorem upR_start (a : List Nat) (s n : Nat) : UpR a (List.replicate n 0) s 0 0 := ⟨dOk_replicate n, Nat.two_pow_pos s, by simp [dval]⟩
theorem upR_next {a ds : List Nat} {s i c t : Nat} (ha : dOk a) (hi : i < ds.length) (ht : t = c + 2 ^ s * a.getD i 0) (h : UpR a ds s i c) : UpR a (ds.set i (t % bse)) s (i + 1) (t / bse) := by
  obtain ⟨h1, h2, h3⟩ := h
  refine ⟨dOk_set h1 _ _ (Nat.mod_lt _ bse_pos), ?_, ?_⟩
  · rw [Nat.div_lt_iff_lt_mul bse_pos]
    have e := dOk_at ha i
    have e1 : 2 ^ s * (a.getD i 0 + 1) ≤ 2 ^ s * bse := Nat.mul_le_mul_left _ e
    rw [Nat.mul_add] at e1
    omega
  · rw [take_set_self hi, dval_take_succ]
    have e1 : bse ^ i * (t % bse) + bse ^ (i + 1) * (t / bse) = bse ^ i * t := by
      rw [Nat.pow_succ, Nat.mul_assoc, ← Nat.mul_add, split_base]
    have e2 : bse ^ i * t = bse ^ i * c + bse ^ i * (2 ^ s * a.getD i 0) := by rw [ht, Nat.mul_add]
    have e3 : 2 ^ s * (dval (a.take i) + bse ^ i * a.getD i 0) = 2 ^ s * dval (a.take i) + bse ^ i * (2 ^ s * a.getD i 0) := by grind
    omega
theorem upR_end {a ds : List Nat} {s c : Nat} (hs : s ≤ 32) (hl : ds.length = a.length + 1) (h : UpR a ds s a.length c) : dOk (ds.set a.length c) ∧ dval (ds.set a.length c) = 2 ^ s * dval a := by
  obtain ⟨h1, h2, h3⟩ := h
  have hp : 2 ^ s ≤ bse := by
    have := Nat.pow_le_pow_right (show 0 < 2 by omega) hs
    simpa [bse] using this
  refine ⟨dOk_set h1 _ _ (by omega), ?_⟩
  have e := take_set_self (l := ds) (k := a.length) (v := c) (by omega)
  rw [List.take_of_length_le (by simp; omega)] at e
  rw [e, h3, List.take_of_length_le (Nat.le_refl _)]

/-- down: the digits from i on have been divided, c is the rest. -/
def DownR (a ds : List Nat) (s i c : Nat) : Prop := dOk ds ∧ c < 2 ^ s ∧ dval (a.drop i) = 2 ^ s * dval (ds.drop i) + c
theorem downR_start (a : List Nat) (s : Nat) : DownR a (List.replicate a.length 0) s a.length 0 := ⟨dOk_replicate _, Nat.two_pow_pos s, by simp [dval]⟩
theorem downR_next {a ds : List Nat} {s i c t : Nat} (ha : dOk a) (hs : s ≤ 32) (hi : i < a.length) (hl : ds.length = a.length) (ht : t = c * bse + a.getD i 0) (h : DownR a ds s (i + 1) c) : DownR a (ds.set i (t / 2 ^ s)) s i (t % 2 ^ s) ∧ t / 2 ^ s < bse := by
  obtain ⟨h1, h2, h3⟩ := h
  have hq : t / 2 ^ s < bse := by
    rw [Nat.div_lt_iff_lt_mul (Nat.two_pow_pos s)]
    have e := dOk_at ha i
    have e1 : (c + 1) * bse ≤ 2 ^ s * bse := Nat.mul_le_mul_right _ h2
    rw [Nat.add_mul] at e1
    rw [Nat.mul_comm bse]
    omega
  refine ⟨⟨dOk_set h1 _ _ hq, Nat.mod_lt _ (Nat.two_pow_pos s), ?_⟩, hq⟩
  have hd : (ds.set i (t / 2 ^ s)).drop i = (t / 2 ^ s) :: ds.drop (i + 1) := by
    rw [List.drop_eq_getElem_cons (by simp; omega)]
    congr 1
    · simp
    · rw [List.drop_set_of_lt (by omega)]
  rw [hd, dval_drop_eq a i hi, h3, dval]
  have e := Nat.mod_add_div t (2 ^ s)
  have e1 : 2 ^ s * (t / 2 ^ s + bse * dval (ds.drop (i + 1))) + t % 2 ^ s = t + bse * (2 ^ s * dval (ds.drop (i + 1))) := by
    rw [Nat.mul_add]
    have : 2 ^ s * (bse * dval (ds.drop (i + 1))) = bse * (2 ^ s * dval (ds.drop (i + 1))) := by grind
    omega
  rw [e1, ht, Nat.mul_add]
  have : c * bse = bse * c := Nat.mul_comm _ _
  omega
theorem downR_end {a ds : List Nat} {s c : Nat} (h : DownR a ds s 0 c) : dval ds = dval a / 2 ^ s := by
  obtain ⟨h1, h2, h3⟩ := h
  simp only [List.drop_zero] at h3
  rw [h3, Nat.mul_add_div (Nat.two_pow_pos s), Nat.div_eq_of_lt h2]
  rfl
end Go.Proofs.YtaneocedklnajaaGreat
/- Division of numbers by their digits: one digit of the quotient, and the whole loop. No condition. -/
namespace Go.Proofs.YtaneocedklnajaaGreat
set_option linter.unusedVariables false

/-- The digits from k on, n + 1 of them. -/
def window (rs : List Nat) (k n : Nat) : List Nat := (rs.drop k).take (n + 1)
theorem window_len {rs : List Nat} {k n : Nat} (h : k + n < rs.length) : (window rs k n).length = n + 1 := by unfold window; simp; omega
theorem window_ok {rs : List Nat} (h : dOk rs) (k n : Nat) : dOk (window rs k n) := dOk_take (dOk_drop h k) _
theorem window_at {rs : List Nat} {k n j : Nat} (h : j < n + 1) : (window rs k n).getD j 0 = rs.getD (k + j) 0 := by
  unfold window
  simp [List.getD, h]
theorem dval_hi_zero {l : List Nat} {i : Nat} (h : dval l < bse ^ i) : dval (l.drop i) = 0 := by
  by_cases hi : i ≤ l.length
  · rw [dval_split l i hi] at h
    rcases Nat.eq_zero_or_pos (dval (l.drop i)) with h0 | h0
    · exact h0
    · exfalso
      have : bse ^ i * 1 ≤ bse ^ i * dval (l.drop i) := Nat.mul_le_mul_left _ h0
      omega
  · rw [List.drop_of_length_le (by omega)]; rfl
theorem window_val {rs : List Nat} {k n : Nat} (hl : k + n < rs.length) (h : dval rs < bse ^ (k + n + 1)) : dval rs = dval (rs.take k) + bse ^ k * dval (window rs k n) := by
  have h1 := dval_split rs k (by omega)
  have h2 := dval_hi_zero h
  have h3 := dval_split (rs.drop k) (n + 1) (by simp; omega)
  rw [List.drop_drop, show k + (n + 1) = k + n + 1 from by omega, h2, Nat.mul_zero, Nat.add_zero] at h3
  rw [h1, h3]
  rfl

/-- k digits of the quotient are still to be found. -/
structure OverR (X b n : Nat) (rs qs : List Nat) (k : Nat) : Prop where
  ok : dOk rs
  qok : dOk qs
  val : dval rs + bse ^ k * (dval (qs.drop k) * b) = X
  lt : dval rs < bse ^ k * b
  bn : b < bse ^ n

theorem OverR.top {X b n k : Nat} {rs qs : List Nat} (h : OverR X b n rs qs (k + 1)) (hl : k + n < rs.length) : dval rs = dval (rs.take k) + bse ^ k * dval (window rs k n) := by
  refine window_val hl (Nat.lt_of_lt_of_le h.lt ?_)
  have := Nat.mul_le_mul_left (bse ^ (k + 1)) (Nat.le_of_lt h.bn)
  rw [← Nat.pow_add] at this
  rwa [show k + n + 1 = k + 1 + n from by omega]
/-- The true digit is one. -/
theorem OverR.dig {X b n k : Nat} {rs qs : List Nat} (h : OverR X b n rs qs (k + 1)) (hb : 0 < b) (hl : k + n < rs.length) : dval (window rs k n) / b < bse := by
  rw [Nat.div_lt_iff_lt_mul hb]
  have h1 := h.top hl
  have h2 := h.lt
  rw [Nat.pow_succ, Nat.mul_assoc] at h2
  have h3 : bse ^ k * dval (window rs k n) < bse ^ k * (bse * b) := by omega
  exact Nat.lt_of_mul_lt_mul_left h3
/-- The first guess is not too small. -/
theorem guess_ok {ws bs : List Nat} {n b : Nat} (hn : 0 < n) (hw : dOk ws) (hwl : ws.length = n + 1) (hbl : bs.length = n) (hb : dval bs = b) (hb0 : bs.getD (n - 1) 0 ≠ 0) :
    dval ws / b ≤ (ws.getD n 0 * bse + ws.getD (n - 1) 0) / bs.getD (n - 1) 0 := by
  have hq : dval ws / b * b ≤ dval ws := Nat.div_mul_le_self _ _
  generalize dval ws / b = q at hq
  have h1 := dval_take_succ ws n
  rw [List.take_of_length_le (by omega)] at h1
  have h2 := dval_take_succ ws (n - 1)
  rw [show n - 1 + 1 = n from by omega] at h2
  have h3 := dval_lt (dOk_take hw (n - 1))
  rw [List.length_take, Nat.min_eq_left (by omega)] at h3
  have h4 := dval_take_succ bs (n - 1)
  rw [show n - 1 + 1 = n from by omega, List.take_of_length_le (by omega), hb] at h4
  have hp : bse ^ n = bse ^ (n - 1) * bse := by
    obtain ⟨m, rfl⟩ : ∃ m, n = m + 1 := ⟨n - 1, by omega⟩
    rw [Nat.pow_succ]; rfl
  rw [Nat.le_div_iff_mul_le (Nat.pos_of_ne_zero hb0)]
  have h5 : bse ^ (n - 1) * (q * bs.getD (n - 1) 0) ≤ q * b := by
    rw [h4, Nat.mul_add]
    have : q * (bse ^ (n - 1) * bs.getD (n - 1) 0) = bse ^ (n - 1) * (q * bs.getD (n - 1) 0) := by grind
    omega
  have h6 : dval ws < bse ^ (n - 1) * (ws.getD n 0 * bse + ws.getD (n - 1) 0 + 1) := by
    rw [h1, h2, hp, Nat.mul_add, Nat.mul_add]
    have : bse ^ (n - 1) * bse * ws.getD n 0 = bse ^ (n - 1) * (ws.getD n 0 * bse) := by grind
    omega
  have h7 : bse ^ (n - 1) * (q * bs.getD (n - 1) 0) < bse ^ (n - 1) * (ws.getD n 0 * bse + ws.getD (n - 1) 0 + 1) := by omega
  have := Nat.lt_of_mul_lt_mul_left h7
  omega
/-- The digits with the window cleared, and the rest of the window laid. -/
def laid (rs : List Nat) (k n z : Nat) : List Nat := rs.take k ++ (digs z ++ List.replicate (n + 1 - (digs z).length) 0) ++ rs.drop (k + n + 1)
theorem laid_len {rs : List Nat} {k n z : Nat} (hl : k + n < rs.length) (hz : (digs z).length ≤ n + 1) : (laid rs k n z).length = rs.length := by
  unfold laid; simp; omega
theorem laid_ok {rs : List Nat} {k n z : Nat} (h : dOk rs) : dOk (laid rs k n z) := by
  unfold laid
  rw [dOk_append, dOk_append, dOk_append]
  exact ⟨⟨dOk_take h k, digs_ok z, dOk_replicate _⟩, dOk_drop h _⟩
theorem laid_val {rs : List Nat} {k n z : Nat} (hl : k + n < rs.length) (h : dval rs < bse ^ (k + n + 1)) : dval (laid rs k n z) = dval (rs.take k) + bse ^ k * z := by
  unfold laid
  rw [dval_append, dval_append, dval_append, dval_hi_zero h, dval_replicate, dval_digs, List.length_take, Nat.min_eq_left (by omega)]
  simp
theorem OverR.next {X b n k : Nat} {rs qs : List Nat} (h : OverR X b n rs qs (k + 1)) (hb : 0 < b) (hl : k + n < rs.length) (hk : k < qs.length) :
    OverR X b n (laid rs k n (dval (window rs k n) % b)) (qs.set k (dval (window rs k n) / b)) k := by
  have hlt : dval rs < bse ^ (k + n + 1) := by
    refine Nat.lt_of_lt_of_le h.lt ?_
    have := Nat.mul_le_mul_left (bse ^ (k + 1)) (Nat.le_of_lt h.bn)
    rw [← Nat.pow_add] at this
    rwa [show k + n + 1 = k + 1 + n from by omega]
  have htop := h.top hl
  have hdig := h.dig hb hl
  have e := Nat.div_add_mod (dval (window rs k n)) b
  generalize dval (window rs k n) = W at htop hdig e
  have hmod : W % b < b := Nat.mod_lt _ hb
  refine ⟨laid_ok h.ok, dOk_set h.qok _ _ hdig, ?_, ?_, h.bn⟩
  · rw [laid_val hl hlt]
    have hd : (qs.set k (W / b)).drop k = (W / b) :: qs.drop (k + 1) := by
      rw [List.drop_eq_getElem_cons (by simp; omega)]
      congr 1
      · simp
      · rw [List.drop_set_of_lt (by omega)]
    have hv := h.val
    rw [hd, dval, Nat.add_mul, Nat.mul_add]
    rw [htop, Nat.pow_succ] at hv
    have e1 : bse ^ k * W = bse ^ k * (W / b * b) + bse ^ k * (W % b) := by rw [← Nat.mul_add, Nat.mul_comm (W / b) b, e]
    have e2 : bse ^ k * bse * (dval (qs.drop (k + 1)) * b) = bse ^ k * (bse * dval (qs.drop (k + 1)) * b) := by grind
    omega
  · rw [laid_val hl hlt]
    have h1 := dval_lt (dOk_take h.ok k)
    rw [List.length_take, Nat.min_eq_left (by omega)] at h1
    have h2 : bse ^ k * (W % b + 1) ≤ bse ^ k * b := Nat.mul_le_mul_left _ hmod
    rw [Nat.mul_add] at h2
    omega
theorem OverR.done {X b n : Nat} {rs qs : List Nat} (h : OverR X b n rs qs 0) : dval qs = X / b ∧ dval rs = X % b := by
  have hv := h.val
  have hl := h.lt
  simp only [Nat.pow_zero, Nat.one_mul, List.drop_zero] at hv hl
  have hb : 0 < b := by omega
  constructor
  · rw [← hv, Nat.add_mul_div_right _ _ hb, Nat.div_eq_of_lt hl, Nat.zero_add]
  · rw [← hv, Nat.add_mul_mod_self_right, Nat.mod_eq_of_lt hl]
theorem OverR.start {X b n Q : Nat} {rs : List Nat} (ok : dOk rs) (hv : dval rs = X) (hbn : b < bse ^ n) (hlt : X < bse ^ Q * b) : OverR X b n rs (List.replicate Q 0) Q :=
  ⟨ok, dOk_replicate _, by rw [hv, List.drop_of_length_le (by simp)]; simp [dval], by rw [hv]; exact hlt, hbn⟩
/-- Quotient and rest of shifted numbers. -/
theorem shift_div (x y s : Nat) (hy : 0 < y) : (2 ^ s * x) / (2 ^ s * y) = x / y ∧ (2 ^ s * x) % (2 ^ s * y) / 2 ^ s = x % y := by
  have hp := Nat.two_pow_pos s
  constructor
  · exact Nat.mul_div_mul_left _ _ hp
  · rw [Nat.mul_mod_mul_left, Nat.mul_div_cancel_left _ hp]
/-- The digits of the shifted divisor. -/
theorem up_digs {y s : Nat} (h : y ≠ 0) (hs : 2 ^ s * y < bse ^ (digs y).length) : (digs (2 ^ s * y)).length = (digs y).length := by
  have h1 := digs_len_le hs
  have h2 := digs_len_mono (Nat.le_mul_of_pos_left y (Nat.two_pow_pos s))
  omega
end Go.Proofs.YtaneocedklnajaaGreat

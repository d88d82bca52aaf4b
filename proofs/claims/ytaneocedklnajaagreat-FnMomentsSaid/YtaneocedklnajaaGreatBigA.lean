import Derived.Test.YtaneocedklnajaaGreatOwnX
import Derived.Test.YtaneocedklnajaaGreatOne
import Derived.Deep.LoopGhost
import Derived.Deep.DeepCutAuto
import Derived.Deep.QuietTactic
import Derived.BigQuiet
/- Numbers of any size by their digits to the base 2^30, the least one first: plain lists of natural numbers; the loops of plus, minus, times and the division bit by bit. No condition. -/
namespace Go.Proofs.YtaneocedklnajaaGreat
namespace B30
set_option linter.unusedVariables false

/-- The base. -/
def bse : Nat := 1073741824
theorem bse_eq : bse = 1073741824 := rfl
theorem bse_pos : 0 < bse := by decide
theorem bse_pow_pos (i : Nat) : 0 < bse ^ i := Nat.pow_pos bse_pos

def dval : List Nat → Nat
  | [] => 0
  | d :: ds => d + bse * dval ds
def dOk (l : List Nat) : Prop := ∀ d ∈ l, d < bse

theorem dOk_at {l : List Nat} (h : dOk l) (j : Nat) : l.getD j 0 < bse := by
  rw [List.getD]
  cases hj : l[j]? with
  | none => exact bse_pos
  | some d => exact h d (List.mem_of_getElem? hj)
theorem dOk_nil : dOk [] := fun d hd => by cases hd
theorem dOk_cons {d : Nat} {l : List Nat} : dOk (d :: l) ↔ d < bse ∧ dOk l := by
  unfold dOk; simp
theorem dOk_append {l m : List Nat} : dOk (l ++ m) ↔ dOk l ∧ dOk m := by
  unfold dOk; simp only [List.mem_append]; exact ⟨fun h => ⟨fun d hd => h d (Or.inl hd), fun d hd => h d (Or.inr hd)⟩, fun h d hd => hd.elim (h.1 d) (h.2 d)⟩
theorem dOk_take {l : List Nat} (h : dOk l) (n : Nat) : dOk (l.take n) := fun d hd => h d (List.mem_of_mem_take hd)
theorem dOk_drop {l : List Nat} (h : dOk l) (n : Nat) : dOk (l.drop n) := fun d hd => h d (List.mem_of_mem_drop hd)
theorem dOk_set {l : List Nat} (h : dOk l) (j v : Nat) (hv : v < bse) : dOk (l.set j v) := fun d hd => by
  rcases List.mem_or_eq_of_mem_set hd with h1 | h1
  · exact h d h1
  · rw [h1]; exact hv
theorem dOk_replicate (n : Nat) : dOk (List.replicate n 0) := fun d hd => by
  rw [List.eq_of_mem_replicate hd]; exact bse_pos

theorem dval_append : ∀ l m : List Nat, dval (l ++ m) = dval l + bse ^ l.length * dval m
  | [], m => by simp [dval]
  | d :: l, m => by
    simp only [List.cons_append, dval, dval_append l m, List.length_cons, Nat.pow_succ]
    grind
theorem dval_lt : ∀ {l : List Nat}, dOk l → dval l < bse ^ l.length
  | [], _ => by simp [dval]
  | d :: l, h => by
    have h1 := (dOk_cons.1 h).1
    have h2 := dval_lt (dOk_cons.1 h).2
    simp only [dval, List.length_cons, Nat.pow_succ]
    have h3 : bse * (dval l + 1) ≤ bse * bse ^ l.length := Nat.mul_le_mul_left _ h2
    rw [Nat.mul_comm (bse ^ l.length) bse]
    rw [Nat.mul_add] at h3
    omega
theorem dval_replicate : ∀ n, dval (List.replicate n 0) = 0
  | 0 => rfl
  | n + 1 => by simp [List.replicate_succ, dval, dval_replicate n]
theorem dval_take_succ (l : List Nat) (i : Nat) : dval (l.take (i + 1)) = dval (l.take i) + bse ^ i * l.getD i 0 := by
  by_cases h : i < l.length
  · rw [List.take_succ_eq_append_getElem h, dval_append, List.length_take, Nat.min_eq_left (by omega)]
    simp [dval, List.getD, List.getElem?_eq_getElem h]
  · rw [List.take_of_length_le (by omega), List.take_of_length_le (by omega)]
    simp [List.getD, List.getElem?_eq_none (by omega : l.length ≤ i)]
theorem dval_drop_eq (l : List Nat) (i : Nat) (h : i < l.length) : dval (l.drop i) = l.getD i 0 + bse * dval (l.drop (i + 1)) := by
  rw [List.drop_eq_getElem_cons h]
  simp [dval, List.getD, h]
theorem dval_split (l : List Nat) (i : Nat) (h : i ≤ l.length) : dval l = dval (l.take i) + bse ^ i * dval (l.drop i) := by
  have := dval_append (l.take i) (l.drop i)
  rw [List.take_append_drop, List.length_take, Nat.min_eq_left h] at this
  exact this
theorem dval_set : ∀ (l : List Nat) (j v : Nat), j < l.length → dval (l.set j v) + bse ^ j * l.getD j 0 = dval l + bse ^ j * v
  | [], j, v, h => by simp at h
  | d :: l, 0, v, h => by simp [dval]; omega
  | d :: l, j + 1, v, h => by
    have ih := dval_set l j v (by simpa using h)
    simp only [List.set_cons_succ, dval, List.getD_cons_succ, Nat.pow_succ]
    have e1 : bse ^ j * bse * l.getD j 0 = bse * (bse ^ j * l.getD j 0) := by grind
    have e2 : bse ^ j * bse * v = bse * (bse ^ j * v) := by grind
    rw [e1, e2]
    have e3 : bse * (dval (l.set j v) + bse ^ j * l.getD j 0) = bse * (dval l + bse ^ j * v) := by rw [ih]
    rw [Nat.mul_add, Nat.mul_add] at e3
    omega
theorem dval_zero_iff {l : List Nat} : dval l = 0 → ∀ j, l.getD j 0 = 0 := by
  induction l with
  | nil => intro _ j; rfl
  | cons d l ih =>
    intro h j
    simp only [dval] at h
    have h1 : d = 0 := by omega
    have h2 : bse * dval l = 0 := by omega
    have h3 : dval l = 0 := by
      rcases Nat.mul_eq_zero.1 h2 with h | h
      · exact absurd h (by decide)
      · exact h
    cases j with
    | zero => simpa using h1
    | succ j => simpa using ih h3 j

/-- The digits of a number, the last one not 0. -/
def digs (n : Nat) : List Nat := if h : n = 0 then [] else (n % bse) :: digs (n / bse)
termination_by n
decreasing_by exact Nat.div_lt_self (by omega) (by decide)
theorem digs_zero : digs 0 = [] := by rw [digs]; simp
theorem digs_pos {n : Nat} (h : n ≠ 0) : digs n = (n % bse) :: digs (n / bse) := by rw [digs]; simp [h]
theorem dval_digs (n : Nat) : dval (digs n) = n := by
  induction n using Nat.strongRecOn with
  | _ n ih =>
    by_cases h : n = 0
    · subst h; rw [digs_zero]; rfl
    · rw [digs_pos h, dval, ih _ (Nat.div_lt_self (by omega) (by decide))]
      exact Nat.mod_add_div n bse
theorem digs_ok (n : Nat) : dOk (digs n) := by
  induction n using Nat.strongRecOn with
  | _ n ih =>
    by_cases h : n = 0
    · subst h; rw [digs_zero]; exact dOk_nil
    · rw [digs_pos h, dOk_cons]
      exact ⟨Nat.mod_lt _ bse_pos, ih _ (Nat.div_lt_self (by omega) (by decide))⟩
theorem digs_cons {d n : Nat} (hd : d < bse) (h : d + bse * n ≠ 0) : digs (d + bse * n) = d :: digs n := by
  rw [digs_pos h]
  congr 1
  · rw [Nat.add_mul_mod_self_left, Nat.mod_eq_of_lt hd]
  · congr 1
    rw [Nat.add_mul_div_left _ _ bse_pos, Nat.div_eq_of_lt hd, Nat.zero_add]
/-- A list of digits that does not end with 0 is the number's. -/
theorem canon : ∀ {l : List Nat}, dOk l → (l = [] ∨ l.getD (l.length - 1) 0 ≠ 0) → l = digs (dval l)
  | [], _, _ => by simp [dval, digs_zero]
  | [d], h, hl => by
    have hd : d ≠ 0 := by simpa using hl
    have h1 := (dOk_cons.1 h).1
    have e : dval [d] = d + bse * 0 := by simp [dval]
    rw [e, digs_cons h1 (by omega), digs_zero]
  | d :: c :: l, h, hl => by
    have h1 := (dOk_cons.1 h).1
    have hne : (c :: l).getD ((c :: l).length - 1) 0 ≠ 0 := by
      rcases hl with hl | hl
      · cases hl
      · simpa using hl
    have ih := canon (dOk_cons.1 h).2 (Or.inr hne)
    have hnz : dval (c :: l) ≠ 0 := fun e => hne (dval_zero_iff e _)
    have hb : bse ≤ bse * dval (c :: l) := Nat.le_mul_of_pos_right _ (by omega)
    have := bse_pos
    rw [show dval (d :: c :: l) = d + bse * dval (c :: l) from rfl, digs_cons h1 (by omega), ← ih]
/-- What is left when zeros at the end are dropped. -/
theorem trim_eq {l : List Nat} {n : Nat} (h : dOk l) (hn : n ≤ l.length) (hz : ∀ j, n ≤ j → j < l.length → l.getD j 0 = 0) (hl : n = 0 ∨ l.getD (n - 1) 0 ≠ 0) : l.take n = digs (dval l) := by
  have hlen : (l.take n).length = n := by simp; omega
  have hd : dval (l.drop n) = 0 := by
    have : ∀ m : List Nat, (∀ j, j < m.length → m.getD j 0 = 0) → dval m = 0 := by
      intro m
      induction m with
      | nil => intro _; rfl
      | cons d m ih =>
        intro hm
        have h0 := hm 0 (by simp)
        have := ih (fun j hj => by simpa using hm (j + 1) (by simpa using hj))
        simp only [dval, this, Nat.mul_zero, Nat.add_zero]
        simpa using h0
    refine this _ fun j hj => ?_
    have := hz (n + j) (by omega) (by simp at hj; omega)
    simpa [List.getD, List.getElem?_drop] using this
  have e : dval l = dval (l.take n) := by rw [dval_split l n hn, hd]; simp
  rw [e]
  refine canon (dOk_take h n) ?_
  rcases hl with hl | hl
  · left; subst hl; rfl
  · right
    rw [hlen]
    have hn0 : n ≠ 0 := fun e => by
      subst e
      apply hl
      exact hz 0 (by omega) (by
        rcases Nat.lt_or_ge 0 l.length with h | h
        · exact h
        · exfalso; apply hl; simp [List.getD, List.getElem?_eq_none (show l.length ≤ 0 - 1 by omega)])
    simpa [List.getD, List.getElem?_take, show n - 1 < n by omega] using hl
theorem digs_len_le {n k : Nat} (h : n < bse ^ k) : (digs n).length ≤ k := by
  induction k generalizing n with
  | zero =>
    have : n = 0 := by simp at h; exact h
    subst this; simp [digs_zero]
  | succ k ih =>
    by_cases h0 : n = 0
    · subst h0; simp [digs_zero]
    · rw [digs_pos h0, List.length_cons]
      have : n / bse < bse ^ k := by
        rw [Nat.div_lt_iff_lt_mul bse_pos]
        rw [Nat.pow_succ] at h
        exact h
      have := ih this
      omega
theorem digs_last (n : Nat) (h : n ≠ 0) : (digs n).getD ((digs n).length - 1) 0 ≠ 0 := by
  induction n using Nat.strongRecOn with
  | _ n ih =>
    rw [digs_pos h]
    by_cases h1 : n / bse = 0
    · rw [h1, digs_zero]
      have h2 : n % bse = n := by
        have := Nat.mod_add_div n bse
        rw [h1] at this
        simpa using this
      simpa [h2] using h
    · have hlt := Nat.div_lt_self (show 0 < n by omega) (show 1 < bse by decide)
      have := ih _ hlt h1
      have hlen : (digs (n / bse)).length ≠ 0 := fun e => this (by simp [List.eq_nil_of_length_eq_zero e])
      obtain ⟨m, hm⟩ : ∃ m, (digs (n / bse)).length = m + 1 := ⟨(digs (n / bse)).length - 1, by omega⟩
      rw [hm] at this
      simp only [List.length_cons, hm]
      simpa using this
theorem digs_ge {n : Nat} (h : n ≠ 0) : bse ^ ((digs n).length - 1) ≤ n := by
  have h1 := digs_last n h
  have hlen : (digs n).length ≠ 0 := fun e => h1 (by simp [List.eq_nil_of_length_eq_zero e])
  have h2 := dval_take_succ (digs n) ((digs n).length - 1)
  rw [show (digs n).length - 1 + 1 = (digs n).length from by omega, List.take_length, dval_digs] at h2
  have h3 : bse ^ ((digs n).length - 1) * 1 ≤ bse ^ ((digs n).length - 1) * (digs n).getD ((digs n).length - 1) 0 := Nat.mul_le_mul_left _ (by omega)
  omega
theorem digs_nil_iff {n : Nat} : digs n = [] ↔ n = 0 := by
  constructor
  · intro h
    have := dval_digs n
    rw [h] at this
    exact this.symm
  · rintro rfl; exact digs_zero
theorem digs_len_zero {n : Nat} : (digs n).length = 0 ↔ n = 0 := by
  rw [List.length_eq_zero_iff, digs_nil_iff]
theorem digs_len_pos {n : Nat} (h : 0 < n) : 0 < (digs n).length := by
  have := (digs_len_zero (n := n)).1
  omega
theorem digs_lt (n : Nat) : n < bse ^ (digs n).length := by
  have := dval_lt (digs_ok n)
  rwa [dval_digs] at this
/-- More digits, a greater number. -/
theorem digs_len_lt {m n : Nat} (h : (digs m).length < (digs n).length) : m < n := by
  have hn : n ≠ 0 := fun e => by subst e; simp [digs_zero] at h
  have h1 := digs_lt m
  have h2 := digs_ge hn
  have h3 : bse ^ (digs m).length ≤ bse ^ ((digs n).length - 1) := Nat.pow_le_pow_right bse_pos (by omega)
  omega
theorem digs_len_mono {m n : Nat} (h : m ≤ n) : (digs m).length ≤ (digs n).length := by
  rcases Nat.lt_or_ge (digs n).length (digs m).length with h1 | h1
  · have := digs_len_lt h1; omega
  · exact h1
/-- The greatest digit in which numbers of the same length differ decides. -/
theorem cmp_at {l m : List Nat} {i : Nat} (hl : dOk l) (hm : dOk m) (hlen : l.length = m.length) (hi : i < l.length) (hs : ∀ j, i < j → j < l.length → l.getD j 0 = m.getD j 0) (hlt : l.getD i 0 < m.getD i 0) : dval l < dval m := by
  have he : l.drop (i + 1) = m.drop (i + 1) := by
    apply List.ext_getElem?
    intro j
    rw [List.getElem?_drop, List.getElem?_drop]
    by_cases hj : i + 1 + j < l.length
    · have := hs (i + 1 + j) (by omega) hj
      rw [List.getElem?_eq_getElem hj, List.getElem?_eq_getElem (by omega)]
      simp only [List.getD, List.getElem?_eq_getElem hj, List.getElem?_eq_getElem (show i + 1 + j < m.length by omega), Option.getD_some] at this
      rw [this]
    · rw [List.getElem?_eq_none (by omega), List.getElem?_eq_none (by omega)]
  have h1 := dval_split l (i + 1) (by omega)
  have h2 := dval_split m (i + 1) (by omega)
  rw [dval_take_succ] at h1 h2
  rw [he] at h1
  have h3 := dval_lt (dOk_take hl i)
  rw [List.length_take, Nat.min_eq_left (by omega)] at h3
  have h4 : bse ^ i * (l.getD i 0 + 1) ≤ bse ^ i * m.getD i 0 := Nat.mul_le_mul_left _ hlt
  rw [Nat.mul_add] at h4
  omega

theorem split_base (c : Nat) : c % bse + bse * (c / bse) = c := Nat.mod_add_div c bse
theorem take_set_self {l : List Nat} {k v : Nat} (hk : k < l.length) : dval ((l.set k v).take (k + 1)) = dval (l.take k) + bse ^ k * v := by
  rw [dval_take_succ, List.take_set_of_le (Nat.le_refl k)]
  simp [List.getD, hk]

/-- plus: the first k digits of the sum are laid, c is the carry. -/
def PlusR (a b ds : List Nat) (k c : Nat) : Prop := dOk ds ∧ c ≤ 1 ∧ dval (ds.take k) + bse ^ k * c = dval (a.take k) + dval (b.take k)
theorem plusR_start (a b : List Nat) (n : Nat) : PlusR a b (List.replicate n 0) 0 0 := ⟨dOk_replicate n, by omega, by simp [dval]⟩
theorem plusR_next {a b ds : List Nat} {k c : Nat} (ha : dOk a) (hb : dOk b) (hk : k < ds.length) (h : PlusR a b ds k c) :
    PlusR a b (ds.set k ((c + a.getD k 0 + b.getD k 0) % bse)) (k + 1) ((c + a.getD k 0 + b.getD k 0) / bse) := by
  obtain ⟨h1, h2, h3⟩ := h
  refine ⟨dOk_set h1 _ _ (Nat.mod_lt _ bse_pos), ?_, ?_⟩
  · have : (c + a.getD k 0 + b.getD k 0) / bse < 2 := by
      rw [Nat.div_lt_iff_lt_mul bse_pos]
      have := bse_eq
      have := dOk_at ha k
      have := dOk_at hb k
      omega
    omega
  · rw [take_set_self hk, dval_take_succ, dval_take_succ]
    have e := split_base (c + a.getD k 0 + b.getD k 0)
    have e1 : bse ^ k * ((c + a.getD k 0 + b.getD k 0) % bse) + bse ^ (k + 1) * ((c + a.getD k 0 + b.getD k 0) / bse) = bse ^ k * (c + a.getD k 0 + b.getD k 0) := by
      rw [Nat.pow_succ, Nat.mul_assoc, ← Nat.mul_add, e]
    rw [Nat.mul_add, Nat.mul_add] at e1
    omega
theorem plusR_end {a b ds : List Nat} {n c : Nat} (ha : dOk a) (hb : dOk b) (hba : b.length ≤ a.length) (hn : n = a.length + 1) (hds : ds.length = n) (h : PlusR a b ds n c) : dval ds = dval a + dval b := by
  obtain ⟨h1, h2, h3⟩ := h
  rw [List.take_of_length_le (by omega), List.take_of_length_le (by omega), List.take_of_length_le (by omega)] at h3
  have ha2 := dval_lt ha
  have hb2 := dval_lt hb
  have hp : bse ^ b.length ≤ bse ^ a.length := Nat.pow_le_pow_right bse_pos hba
  have hq : bse ^ n = bse ^ a.length * bse := by rw [hn, Nat.pow_succ]
  have hr : bse ^ a.length * 2 ≤ bse ^ a.length * bse := Nat.mul_le_mul_left _ (by decide)
  rcases Nat.eq_zero_or_pos c with hc | hc
  · subst hc; simpa using h3
  · have hc1 : c = 1 := by omega
    subst hc1
    omega

/-- minus: the first k digits of the difference are laid, r is owed. -/
def MinusR (a b ds : List Nat) (k r : Nat) : Prop := dOk ds ∧ r ≤ 1 ∧ dval (ds.take k) + dval (b.take k) = dval (a.take k) + bse ^ k * r
theorem minusR_start (a b : List Nat) (n : Nat) : MinusR a b (List.replicate n 0) 0 0 := ⟨dOk_replicate n, by omega, by simp [dval]⟩
theorem minusR_next {a b ds : List Nat} {k r d r' : Nat} (hd : d < bse) (hr : r' ≤ 1) (he : d + r + b.getD k 0 = a.getD k 0 + bse * r') (hk : k < ds.length) (h : MinusR a b ds k r) : MinusR a b (ds.set k d) (k + 1) r' := by
  obtain ⟨h1, h2, h3⟩ := h
  refine ⟨dOk_set h1 _ _ hd, hr, ?_⟩
  rw [take_set_self hk, dval_take_succ, dval_take_succ]
  have e : bse ^ k * (d + r + b.getD k 0) = bse ^ k * a.getD k 0 + bse ^ (k + 1) * r' := by rw [he, Nat.mul_add, Nat.pow_succ, Nat.mul_assoc]
  rw [Nat.mul_add, Nat.mul_add] at e
  omega
theorem minusR_end {a b ds : List Nat} {r : Nat} (ha : dOk a) (hle : dval b ≤ dval a) (hb : b.length ≤ a.length) (hds : ds.length = a.length) (h : MinusR a b ds a.length r) : dval ds = dval a - dval b := by
  obtain ⟨h1, h2, h3⟩ := h
  rw [List.take_of_length_le (by omega), List.take_of_length_le (by omega), List.take_of_length_le (by omega)] at h3
  have h4 := dval_lt h1
  rw [hds] at h4
  rcases Nat.eq_zero_or_pos r with hr | hr
  · subst hr; omega
  · have : r = 1 := by omega
    subst this
    omega

/-- times: i digits of a have been multiplied; in the round, k digits of b, with the carry. -/
def TimesR (a b ds : List Nat) (i : Nat) : Prop := dOk ds ∧ dval ds = dval (a.take i) * dval b ∧ ∀ j, i + b.length ≤ j → ds.getD j 0 = 0
def TimesS (a b ds : List Nat) (i k c : Nat) : Prop := dOk ds ∧ c < bse ∧ dval ds + bse ^ (i + k) * c = dval (a.take i) * dval b + bse ^ i * (a.getD i 0 * dval (b.take k)) ∧ ∀ j, i + b.length ≤ j → ds.getD j 0 = 0
theorem getD_replicate_zero (n j : Nat) : (List.replicate n (0 : Nat)).getD j 0 = 0 := by
  simp only [List.getD, List.getElem?_replicate]
  split <;> rfl
theorem timesR_start (a b : List Nat) (n : Nat) : TimesR a b (List.replicate n 0) 0 := ⟨dOk_replicate n, by simp [dval, dval_replicate], fun j _ => getD_replicate_zero n j⟩
theorem timesS_start {a b ds : List Nat} {i : Nat} (h : TimesR a b ds i) : TimesS a b ds i 0 0 := ⟨h.1, bse_pos, by rw [h.2.1]; simp [dval], h.2.2⟩
theorem set_add {l : List Nat} {j v w : Nat} (hj : j < l.length) (hv : v = l.getD j 0 + w) : dval (l.set j v) = dval l + bse ^ j * w := by
  have := dval_set l j v hj
  rw [hv, Nat.mul_add] at this
  rw [hv]
  omega
theorem timesS_next {a b ds : List Nat} {i k c t : Nat} (ha : dOk a) (hb : dOk b) (hk : k < b.length) (hl : i + k < ds.length) (ht : t = c + ds.getD (i + k) 0 + a.getD i 0 * b.getD k 0) (h : TimesS a b ds i k c) :
    TimesS a b (ds.set (i + k) (t % bse)) i (k + 1) (t / bse) ∧ t < bse * bse := by
  obtain ⟨h1, h2, h3, h4⟩ := h
  have ht2 : t < bse * bse := by
    have e1 := dOk_at ha i
    have e2 := dOk_at hb k
    have e3 := dOk_at h1 (i + k)
    have e4 : a.getD i 0 * b.getD k 0 ≤ (bse - 1) * (bse - 1) := Nat.mul_le_mul (by omega) (by omega)
    have e5 : (bse - 1) * (bse - 1) + 2 * (bse - 1) < bse * bse := by decide
    omega
  refine ⟨⟨dOk_set h1 _ _ (Nat.mod_lt _ bse_pos), (Nat.div_lt_iff_lt_mul bse_pos).2 ht2, ?_, fun j hj => ?_⟩, ht2⟩
  · have e := dval_set ds (i + k) (t % bse) hl
    have e1 : bse ^ (i + k) * (t % bse) + bse ^ (i + (k + 1)) * (t / bse) = bse ^ (i + k) * t := by
      rw [show i + (k + 1) = i + k + 1 from by omega, Nat.pow_succ, Nat.mul_assoc, ← Nat.mul_add, split_base]
    have e2 : bse ^ (i + k) * t = bse ^ (i + k) * c + bse ^ (i + k) * ds.getD (i + k) 0 + bse ^ (i + k) * (a.getD i 0 * b.getD k 0) := by
      rw [ht, Nat.mul_add, Nat.mul_add]
    have e3 : bse ^ i * (a.getD i 0 * dval (b.take (k + 1))) = bse ^ i * (a.getD i 0 * dval (b.take k)) + bse ^ (i + k) * (a.getD i 0 * b.getD k 0) := by
      rw [dval_take_succ, Nat.pow_add]
      grind
    omega
  · have : i + k ≠ j := by omega
    simpa [List.getD, List.getElem?_set, this] using h4 j hj
theorem timesS_end {a b ds : List Nat} {i c : Nat} (hl : i + b.length < ds.length) (h : TimesS a b ds i b.length c) : TimesR a b (ds.set (i + b.length) c) (i + 1) := by
  obtain ⟨h1, h2, h3, h4⟩ := h
  refine ⟨dOk_set h1 _ _ h2, ?_, fun j hj => ?_⟩
  · rw [set_add hl (by rw [h4 _ (Nat.le_refl _)]; exact (Nat.zero_add c).symm), h3, List.take_of_length_le (Nat.le_refl _), dval_take_succ]
    grind
  · have : i + b.length ≠ j := by omega
    simpa [List.getD, List.getElem?_set, this] using h4 j (by omega)
theorem timesR_end {a b ds : List Nat} (h : TimesR a b ds a.length) : dval ds = dval a * dval b := by
  have := h.2.1
  rwa [List.take_of_length_le (Nat.le_refl _)] at this


/-- A number's digits, from the left end of the sum on: k digits are laid, c is the carry. -/
structure PlusA (a b ds : List Nat) (k c : Nat) : Prop where
  ok : dOk ds
  len : ds.length = k
  c1 : c ≤ 1
  val : dval ds + bse ^ k * c = dval (a.take k) + dval (b.take k)
  top : k ≤ a.length ∨ k ≤ b.length ∨ bse ^ (k - 1) ≤ dval a + dval b
theorem plusA_start (a b : List Nat) : PlusA a b [] 0 0 := ⟨dOk_nil, rfl, by omega, by simp [dval], Or.inl (Nat.zero_le _)⟩
theorem plusA_next {a b ds : List Nat} {k c t : Nat} (ha : dOk a) (hb : dOk b) (hgo : k < a.length ∨ k < b.length ∨ 0 < c) (ht : t = c + a.getD k 0 + b.getD k 0) (h : PlusA a b ds k c) :
    PlusA a b (ds ++ [t % bse]) (k + 1) (t / bse) := by
  obtain ⟨h1, h2, h3, h4, h5⟩ := h
  have e := split_base t
  refine ⟨dOk_append.2 ⟨h1, dOk_cons.2 ⟨Nat.mod_lt _ bse_pos, dOk_nil⟩⟩, by simp [h2], ?_, ?_, ?_⟩
  · have : t / bse < 2 := by
      rw [Nat.div_lt_iff_lt_mul bse_pos]
      have := bse_eq
      have := dOk_at ha k
      have := dOk_at hb k
      omega
    omega
  · rw [dval_append, h2, dval_take_succ, dval_take_succ]
    have e1 : bse ^ k * (t % bse) + bse ^ (k + 1) * (t / bse) = bse ^ k * t := by
      rw [Nat.pow_succ, Nat.mul_assoc, ← Nat.mul_add, e]
    have e2 : bse ^ k * t = bse ^ k * c + bse ^ k * a.getD k 0 + bse ^ k * b.getD k 0 := by rw [ht, Nat.mul_add, Nat.mul_add]
    simp only [dval, Nat.mul_zero, Nat.add_zero]
    omega
  · rcases hgo with h | h | h
    · left; omega
    · right; left; omega
    · by_cases hk : k < a.length
      · left; omega
      by_cases hk2 : k < b.length
      · right; left; omega
      right; right
      have hc : c = 1 := by omega
      subst hc
      rw [List.take_of_length_le (by omega), List.take_of_length_le (by omega)] at h4
      simp only [Nat.add_sub_cancel]
      omega
theorem top_ne {ds : List Nat} (h : dOk ds) (hn : 0 < ds.length) (hv : bse ^ (ds.length - 1) ≤ dval ds) : ds.getD (ds.length - 1) 0 ≠ 0 := by
  intro e
  have h1 := dval_take_succ ds (ds.length - 1)
  rw [show ds.length - 1 + 1 = ds.length from by omega, List.take_length, e, Nat.mul_zero, Nat.add_zero] at h1
  have h2 := dval_lt (dOk_take h (ds.length - 1))
  rw [List.length_take, Nat.min_eq_left (by omega)] at h2
  omega
theorem plusA_end {x y k : Nat} {ds : List Nat} (h1 : (digs x).length ≤ k) (h2 : (digs y).length ≤ k) (h : PlusA (digs x) (digs y) ds k 0) : ds = digs (x + y) := by
  obtain ⟨e1, e2, e3, e4, e5⟩ := h
  rw [List.take_of_length_le h1, List.take_of_length_le h2, dval_digs, dval_digs, Nat.mul_zero, Nat.add_zero] at e4
  rw [← e4]
  refine canon e1 ?_
  rcases Nat.eq_zero_or_pos k with hk | hk
  · left; exact List.eq_nil_of_length_eq_zero (by omega)
  · right
    refine top_ne e1 (by omega) ?_
    rw [e2, e4]
    rw [dval_digs, dval_digs] at e5
    rcases e5 with h | h | h
    · have hx : x ≠ 0 := fun e => by subst e; rw [digs_zero] at h; simp at h; omega
      have := digs_ge hx
      rw [show (digs x).length = k by omega] at this
      omega
    · have hy : y ≠ 0 := fun e => by subst e; rw [digs_zero] at h; simp at h; omega
      have := digs_ge hy
      rw [show (digs y).length = k by omega] at this
      omega
    · exact h

/-- A difference, from the left end on: k digits are laid, r is owed. -/
structure MinusA (a b ds : List Nat) (k r : Nat) : Prop where
  ok : dOk ds
  len : ds.length = k
  r1 : r ≤ 1
  val : dval ds + dval (b.take k) = dval (a.take k) + bse ^ k * r
theorem minusA_start (a b : List Nat) : MinusA a b [] 0 0 := ⟨dOk_nil, rfl, by omega, by simp [dval]⟩
theorem minusA_next {a b ds : List Nat} {k r d r' : Nat} (hd : d < bse) (hr : r' ≤ 1) (he : d + r + b.getD k 0 = a.getD k 0 + bse * r') (h : MinusA a b ds k r) : MinusA a b (ds ++ [d]) (k + 1) r' := by
  obtain ⟨h1, h2, h3, h4⟩ := h
  refine ⟨dOk_append.2 ⟨h1, dOk_cons.2 ⟨hd, dOk_nil⟩⟩, by simp [h2], hr, ?_⟩
  rw [dval_append, h2, dval_take_succ, dval_take_succ]
  have e : bse ^ k * (d + r + b.getD k 0) = bse ^ k * a.getD k 0 + bse ^ (k + 1) * r' := by rw [he, Nat.mul_add, Nat.pow_succ, Nat.mul_assoc]
  rw [Nat.mul_add, Nat.mul_add] at e
  simp only [dval, Nat.mul_zero, Nat.add_zero]
  omega
theorem minusA_end {a b ds : List Nat} {r : Nat} (hle : dval b ≤ dval a) (hb : b.length ≤ a.length) (h : MinusA a b ds a.length r) : dval ds = dval a - dval b := by
  obtain ⟨h1, h2, h3, h4⟩ := h
  rw [List.take_of_length_le hb, List.take_of_length_le (Nat.le_refl _)] at h4
  have h5 := dval_lt h1
  rw [h2] at h5
  rcases Nat.eq_zero_or_pos r with hr | hr
  · subst hr; omega
  · have hc1 : r = 1 := by omega
    subst hc1
    omega
/-- Zeros at the end are being dropped: n digits are left. -/
structure TrimR (l : List Nat) (n : Nat) : Prop where
  le : n ≤ l.length
  z : ∀ j, n ≤ j → j < l.length → l.getD j 0 = 0
theorem trimR_start (l : List Nat) : TrimR l l.length := ⟨Nat.le_refl _, fun j h1 h2 => by omega⟩
theorem trimR_next {l : List Nat} {n : Nat} (h : TrimR l (n + 1)) (h0 : l.getD n 0 = 0) : TrimR l n :=
  ⟨by have := h.le; omega, fun j h1 h2 => by
    rcases Nat.lt_or_ge n j with h3 | h3
    · exact h.z j (by omega) h2
    · obtain rfl : n = j := by omega
      exact h0⟩
theorem trimR_end {l : List Nat} {n : Nat} (hl : dOk l) (h : TrimR l n) (h0 : n = 0 ∨ l.getD (n - 1) 0 ≠ 0) : l.take n = digs (dval l) := trim_eq hl h.le h.z h0
/-- Which of two numbers is the greater, by their digits. -/
theorem cmp_len_lt {x y : Nat} (h : (digs x).length < (digs y).length) : x < y := digs_len_lt h
theorem cmp_lt {x y i : Nat} (hlen : (digs x).length = (digs y).length) (hi : i < (digs x).length) (hs : ∀ j, i < j → j < (digs x).length → (digs x).getD j 0 = (digs y).getD j 0) (hlt : (digs x).getD i 0 < (digs y).getD i 0) : x < y := by
  have := cmp_at (digs_ok x) (digs_ok y) hlen hi hs hlt
  rwa [dval_digs, dval_digs] at this
theorem cmp_eq {x y : Nat} (hlen : (digs x).length = (digs y).length) (hs : ∀ j, j < (digs x).length → (digs x).getD j 0 = (digs y).getD j 0) : x = y := by
  have : digs x = digs y := by
    apply List.ext_getElem hlen
    intro j h1 h2
    have := hs j h1
    simpa [List.getD, h1, h2] using this
  have h2 : dval (digs x) = dval (digs y) := by rw [this]
  rwa [dval_digs, dval_digs] at h2
/-- The digits from some place on are those of the quotient. -/
theorem digs_drop (n i : Nat) : (digs n).drop i = digs (n / bse ^ i) := by
  induction i generalizing n with
  | zero => simp
  | succ i ih =>
    by_cases h : n = 0
    · subst h; simp [digs_zero]
    · rw [digs_pos h, List.drop_succ_cons, ih, Nat.div_div_eq_div_mul, Nat.pow_succ, Nat.mul_comm bse]
theorem digs_getD (n i : Nat) : (digs n).getD i 0 = n / bse ^ i % bse := by
  have h := digs_drop n i
  by_cases h0 : n / bse ^ i = 0
  · rw [h0, digs_zero] at h
    have hl : (digs n).length ≤ i := by
      have := congrArg List.length h
      simp at this
      omega
    rw [h0]
    simp [List.getD, List.getElem?_eq_none hl]
  · rw [digs_pos h0] at h
    have : ((digs n).drop i)[0]? = some (n / bse ^ i % bse) := by rw [h]; rfl
    rw [List.getElem?_drop, Nat.add_zero] at this
    simp [List.getD, this]
theorem pow_bse (k : Nat) : bse ^ k = 2 ^ (30 * k) := by
  rw [Nat.pow_mul]; rfl
/-- A bit of a digit is a bit of the number. -/
theorem digs_bit (n i : Nat) : (digs n).getD (i / 30) 0 / 2 ^ (i % 30) % 2 = n / 2 ^ i % 2 := by
  rw [digs_getD, pow_bse, show bse = 2 ^ 30 from rfl]
  have h2 : i % 30 < 30 := Nat.mod_lt _ (by omega)
  have e : ∀ m r : Nat, r < 30 → m % 2 ^ 30 / 2 ^ r % 2 = m / 2 ^ r % 2 := fun m r hr => by
    have h1 : (m % 2 ^ 30).testBit r = m.testBit r := by rw [Nat.testBit_mod_two_pow]; simp [hr]
    simp only [Nat.testBit, Nat.shiftRight_eq_div_pow, Nat.one_and_eq_mod_two] at h1
    have a1 := Nat.mod_two_eq_zero_or_one (m % 2 ^ 30 / 2 ^ r)
    have a2 := Nat.mod_two_eq_zero_or_one (m / 2 ^ r)
    rcases a1 with a1 | a1 <;> rcases a2 with a2 | a2 <;> simp [a1, a2] at h1 ⊢
  rw [e _ _ h2, Nat.div_div_eq_div_mul, ← Nat.pow_add, Nat.div_add_mod]
theorem split_step (y d b : Nat) (hd : 0 < d) (hb : b < 2) : (2 * y + b) / d = 2 * (y / d) + (if d ≤ 2 * (y % d) + b then 1 else 0) ∧ (2 * y + b) % d = 2 * (y % d) + b - (if d ≤ 2 * (y % d) + b then d else 0) := by
  have hlt := Nat.mod_lt y hd
  have e := Nat.div_add_mod y d
  by_cases h : d ≤ 2 * (y % d) + b
  · simp only [if_pos h]
    have e2 : 2 * y + b = (2 * (y % d) + b - d) + d * (2 * (y / d) + 1) := by
      rw [Nat.mul_add, Nat.mul_one, Nat.mul_left_comm d 2]; omega
    rw [e2, Nat.add_mul_div_left _ _ hd, Nat.add_mul_mod_self_left, Nat.div_eq_of_lt (by omega), Nat.mod_eq_of_lt (by omega)]
    omega
  · simp only [if_neg h, Nat.add_zero, Nat.sub_zero]
    have e2 : 2 * y + b = (2 * (y % d) + b) + d * (2 * (y / d)) := by
      rw [Nat.mul_left_comm d 2]; omega
    rw [e2, Nat.add_mul_div_left _ _ hd, Nat.add_mul_mod_self_left, Nat.div_eq_of_lt (by omega), Nat.mod_eq_of_lt (by omega)]
    omega
theorem half_bit (n i : Nat) : n / 2 ^ i = 2 * (n / 2 ^ (i + 1)) + n / 2 ^ i % 2 := by
  rw [Nat.pow_succ, ← Nat.div_div_eq_div_mul]; omega
/-- The first digits are less than the divisor. -/
theorem split_first {x y : Nat} (h : (digs y).length ≤ (digs x).length) (hy : y ≠ 0) : x / 2 ^ (((digs x).length - (digs y).length + 1) * 30) < y := by
  have h1 := digs_lt x
  have h2 := digs_ge hy
  have hl : 0 < (digs y).length := digs_len_pos (by omega)
  rw [Nat.mul_comm, ← pow_bse]
  rw [Nat.div_lt_iff_lt_mul (bse_pow_pos _)]
  refine Nat.lt_of_lt_of_le h1 ?_
  refine Nat.le_trans ?_ (Nat.mul_le_mul_right _ h2)
  rw [← Nat.pow_add]
  exact Nat.pow_le_pow_right bse_pos (by omega)
theorem split_less {x y : Nat} (h : (digs x).length < (digs y).length) : x / y = 0 ∧ x % y = x :=
  ⟨Nat.div_eq_of_lt (digs_len_lt h), Nat.mod_eq_of_lt (digs_len_lt h)⟩
theorem digs_two : digs 2 = [2] := by rw [digs_pos (by decide), show 2 / bse = 0 from rfl, digs_zero]; rfl
theorem digs_one : digs 1 = [1] := by rw [digs_pos (by decide), show 1 / bse = 0 from rfl, digs_zero]; rfl
theorem dval_max {x : Nat} (h : (digs x).length ≤ 2) : x < 1152921504606846976 := by
  have h1 := digs_lt x
  have h2 : bse ^ (digs x).length ≤ bse ^ 2 := Nat.pow_le_pow_right bse_pos h
  have h3 : bse ^ 2 = 1152921504606846976 := by decide
  omega
theorem digs_len_small {x : Nat} (h : x ≤ 1000000000000000000) : (digs x).length ≤ 2 := by
  refine digs_len_le ?_
  have h3 : bse ^ 2 = 1152921504606846976 := by decide
  omega
end B30
end Go.Proofs.YtaneocedklnajaaGreat
/- The reference's numbers of any size: their making and comparing. No condition but bounds. -/
namespace Go.Proofs.YtaneocedklnajaaGreat
open Go.RowKit
set_option linter.unusedVariables false
namespace B30

def dI (ds : List Nat) : List Int := ds.map (fun d : Nat => (d : Int))
theorem dI_len (ds : List Nat) : (dI ds).length = ds.length := by simp [dI]
theorem dI_at (ds : List Nat) (j : Nat) : (dI ds).getD j 0 = ((ds.getD j 0 : Nat) : Int) := by
  unfold dI
  by_cases h : j < ds.length
  · simp [List.getD, h]
  · simp [List.getD, List.getElem?_eq_none (Nat.le_of_not_lt h)]
theorem dI_snoc (ds : List Nat) (d : Nat) : dI (ds ++ [d]) = dI ds ++ [(d : Int)] := by simp [dI]
/-- An address, not nil. -/
def Sm (a : Option Addr) : Prop := ∃ b off, a = some ⟨b, off, none⟩
theorem own_sm {w : World} {B T sz : Nat} {a : Option Addr} {n c : Nat} {xs : List Value} (h : w.ownsRow B T sz (.slice a (n + 1) c) (n + 1) xs) : Sm a := by
  rcases h.2 with ⟨_, e⟩ | ⟨g, c', cur, e, _⟩
  · omega
  · simp only [Value.slice.injEq] at e; exact ⟨g, 0, e.1⟩
/-- The digits of n lie in a slice. -/
structure IsBig (w : World) (a : Option Addr) (l n : Nat) : Prop where
  sm : Sm a
  len : (digs n).length = l
  rd : IsInts w a l (dI (digs n))
theorem IsBig.below {w w' : World} {a : Option Addr} {l n : Nat} (h : IsBig w a l n) (hb : Below w.heap.size w w') : IsBig w' a l n := ⟨h.sm, h.len, h.rd.below hb⟩
theorem IsBig.at {w : World} {a : Option Addr} {l n : Nat} (h : IsBig w a l n) {j : Nat} (hj : j < l) : ∃ b off, a = some ⟨b, off, none⟩ ∧ w.cell? ⟨b, off + j, none⟩ = some (.int .i64 (((digs n).getD j 0 : Nat) : Int)) := by
  obtain ⟨b, off, e, c⟩ := h.rd.at hj
  rw [dI_at] at c
  exact ⟨b, off, e, c⟩
/-- A slice whose block is not older than B. -/
def NewA (B : Nat) (a : Option Addr) : Prop := ∃ g off, a = some ⟨g, off, none⟩ ∧ B ≤ g
theorem NewA.le {B B' : Nat} {a : Option Addr} (h : NewA B a) (hb : B' ≤ B) : NewA B' a := by
  obtain ⟨g, off, e, h1⟩ := h
  exact ⟨g, off, e, Nat.le_trans hb h1⟩
theorem own_new {w : World} {B T sz : Nat} {a : Option Addr} {n c : Nat} {xs : List Value} (h : w.ownsRow B T sz (.slice a n c) n xs) (hs : Sm a) : NewA B a := by
  obtain ⟨b, off, rfl⟩ := hs
  rcases h.2 with ⟨e, _⟩ | ⟨g, c', cur, e, hB, _⟩
  · simp at e
  · simp only [Value.slice.injEq, Option.some.injEq, Addr.mk.injEq] at e
    exact ⟨b, off, rfl, by rw [e.1.1]; exact hB⟩
/-- A slice's room. -/
def CapOk (l c : Nat) : Prop := l ≤ c ∧ c ≤ 9223372036854775807
theorem own_capok {w : World} {B T sz : Nat} {a : Option Addr} {n c : Nat} {xs : List Value} (h : w.ownsRow B T sz (.slice a n c) n xs) : CapOk n c := by
  rcases h.2 with ⟨e, _⟩ | ⟨g, c', cur, e, _, _, h1, h2, _⟩
  · simp only [Value.slice.injEq] at e; exact ⟨by omega, by omega⟩
  · simp only [Value.slice.injEq] at e
    unfold maxLen at h2
    exact ⟨by omega, by omega⟩
theorem CapOk.less {l c n : Nat} (h : CapOk l c) (hn : n ≤ l) : CapOk n c := ⟨Nat.le_trans hn h.1, h.2⟩
/-- A call's answer: the digits of a number, in memory that may be new. -/
def RetBig (w : World) (n : Nat) (e : Ending) (w' : World) : Prop := ∃ a c l, e = .returned (.slice a l c) ∧ IsBig w' a l n ∧ CapOk l c ∧ Below w.heap.size w w' ∧ NewA w.heap.size a
theorem grow_push {w wr w6 : World} {v v' : Value} {n : Nat} {xs : List Int} {z : Int} {o : Obj} (h : GrowAt w wr 2 v n (xs.map (Value.int .i64))) (hown : w6.ownsRow w.heap.size 2 1 v' (n + 1) (xs.map (Value.int .i64) ++ [.int .i64 z])) (hg : (wr.alloc o).grownBy w6 v.ownBlock) :
    GrowAt w w6 2 v' (n + 1) ((xs ++ [z]).map (Value.int .i64)) := by
  rw [List.map_append]
  exact (h.alloc o).push hown hg
theorem mask30 (x : Nat) (h : x < 9223372036854775808) : bits .and .i64 (x : Int) 1073741823 = ((x % 1073741824 : Nat) : Int) := by
  have := and_i64 x 1073741823 h (by omega)
  rw [show ((1073741823 : Nat) : Int) = 1073741823 from rfl] at this
  rw [this]
  congr 1
  exact Nat.and_two_pow_sub_one_eq_mod x 30
set_option maxRecDepth 20000 in
set_option maxHeartbeats 1600000 in
theorem bigOf_any (n : Nat) (w : World) (hn : n < 9223372036854775808) : Calls Tryz.prog 68 #[.int .i64 (n : Nat)] w (RetBig w n) := by
  have H0 := Lib.hid (GrowAt.start w 2)
  have HL := Lib.hid (digs_len_le (n := n) (k := 3) (by rw [bse_eq]; omega))
  go_enter Tryz.func68, Tryz.ntmps68
  go_wp2
  go_loopg [0, 3] (digs n).length (fun g v0 v3 wr => ∃ (x : Nat) (ds : List Nat) (a : Option Addr) (c : Nat), x < 9223372036854775808 ∧ g = (digs x).length ∧ v0 = .int .i64 (x : Nat) ∧ v3 = .slice a ds.length c ∧ Hid (digs n = ds ++ digs x ∧ GrowAt w wr 2 (.slice a ds.length c) ds.length ((dI ds).map (Value.int .i64)) ∧ Sm a))
  case atStart => exact ⟨n, [], _, _, hn, rfl, rfl, rfl, Lib.hid ⟨rfl, H0.out, _, _, rfl⟩⟩
  case round =>
    clear H0
    obtain ⟨x, ds, a, c, hx, rfl, rfl, rfl, HR⟩ := hrel
    by_cases h0 : 0 < x
    · have h1 : (0 : Int) < (x : Int) := by omega
      have hm := mask30 x hx
      obtain ⟨r, hr⟩ : ∃ r, x % 1073741824 = r := ⟨_, rfl⟩
      obtain ⟨q, hq⟩ : ∃ q, x / 1073741824 = q := ⟨_, rfl⟩
      rw [hr] at hm
      have hD := digs_pos (n := x) (by omega)
      rw [bse_eq, hr, hq] at hD
      have hlen := HL.out
      rw [HR.out.1, List.length_append, hD, List.length_cons] at hlen
      have HD := Lib.hid (And.intro hD (show digs n = (ds ++ [r]) ++ digs q by rw [HR.out.1, hD, List.append_assoc]; rfl))
      have hq2 : (x : Int) / 1073741824 = (q : Int) := by rw [← hq]; simp
      have hqb : q < 9223372036854775808 := by omega
      clear hD hq
      have hrb : r < 1073741824 := by omega
      clear hr
      have HOW := Lib.hid (HR.out.2.1.alloc (.cells #[.int .i64 (r : Int)] 2)).1
      have hds : ds.length ≤ 3 := by omega
      clear hlen
      go_wp2_with (at_builtin; refine wpList_ap1 rfl (.tmp 9) (.tmp 12) 53 rfl w.heap.size 2 (.int .i64 0) 8 Tryz.underlying53 Tryz.infoI rfl _ ds.length _ rfl HOW.out wr.heap.size (.int .i64 (r : Int)) rfl (by go_simp) rfl (by omega) (by omega) (by have := HR.out.2.1.2.size; simp only [alloc_size]; omega) ?_)
      intro v' w6 hown hgrow _
      obtain ⟨a6, c6, rfl⟩ := own_form hown
      have hsm := own_sm hown
      have HG3 := Lib.hid (grow_push HR.out.2.1 hown hgrow)
      have HSM := Lib.hid hsm
      clear hown hgrow hsm
      go_wp2
      go_roundg ((digs q).length)
      case measure => rw [HD.out.1, List.length_cons]; omega
      case rel => exact ⟨q, ds ++ [r], a6, c6, hqb, rfl, rfl, by rw [List.length_append]; rfl, Lib.hid ⟨HD.out.2, by rw [List.length_append, dI_snoc]; exact HG3.out, HSM.out⟩⟩
    · obtain rfl : x = 0 := by omega
      go_wp2
      go_ret
      have hd := HR.out.1
      rw [digs_zero, List.append_nil] at hd
      refine ⟨a, c, ds.length, rfl, ⟨HR.out.2.2, by rw [hd], ?_⟩, own_capok HR.out.2.1.1, HR.out.2.1.2, own_new HR.out.2.1.1 HR.out.2.2⟩
      have := IsInts.of_own (zs := dI ds) HR.out.2.1.1
      rw [hd]; exact this
def cmpN (m n : Nat) : Int := if m < n then -1 else if n < m then 1 else 0
theorem cmpN_lt {m n : Nat} (h : m < n) : cmpN m n = -1 := by unfold cmpN; rw [if_pos h]
theorem cmpN_gt {m n : Nat} (h : n < m) : cmpN m n = 1 := by unfold cmpN; rw [if_neg (by omega), if_pos h]
theorem cmpN_eq (n : Nat) : cmpN n n = 0 := by unfold cmpN; rw [if_neg (by omega), if_neg (by omega)]
set_option maxRecDepth 20000 in
set_option maxHeartbeats 1600000 in
theorem bigCmp_any (m n : Nat) (a1 a2 : Option Addr) (l1 l2 c1 c2 : Nat) (w : World) (hb1 : l1 ≤ 1048576) (hb2 : l2 ≤ 1048576) (h1 : IsBig w a1 l1 m) (h2 : IsBig w a2 l2 n) :
    Calls Tryz.prog 135 #[.slice a1 l1 c1, .slice a2 l2 c2] w (Ret w (.int .i64 (cmpN m n))) := by
  have HX := Lib.hid (And.intro h1 h2)
  rcases Nat.lt_trichotomy l1 l2 with hl | hl | hl
  · have HV := Lib.hid (cmpN_lt (m := m) (n := n) (digs_len_lt (by rw [h1.len, h2.len]; exact hl)))
    have hne : ((l1 : Int) != (l2 : Int)) = true := by simp; omega
    have hne2 : ¬ (l1 : Int) = (l2 : Int) := by omega
    have hne3 : (l1 == l2) = false := by rw [beq_eq_false_iff_ne]; omega
    have hli : (l1 : Int) < (l2 : Int) := by omega
    clear h1 h2
    go_enter Tryz.func135, Tryz.ntmps135
    go_wp2
    go_ret
    exact ⟨by rw [HV.out]; rfl, Below.refl _ _⟩
  · subst hl
    have HE := Lib.hid (And.intro h1.len h2.len)
    clear h1 h2
    go_enter Tryz.func135, Tryz.ntmps135
    go_wp2
    go_loopw [5] (fun v5 wr => ∃ k : Nat, k ≤ l1 ∧ v5 = .int .i64 ((k : Int) - 1) ∧ Hid ((∀ j, k ≤ j → j < l1 → (digs m).getD j 0 = (digs n).getD j 0) ∧ Below w.heap.size w wr)) (fun v5 _ => (intOf v5 + 1).toNat)
    case atStart => exact ⟨l1, Nat.le_refl _, rfl, Lib.hid ⟨fun j h1 h2 => by omega, Below.refl _ _⟩⟩
    case round =>
      obtain ⟨k, hk, rfl, HR⟩ := hrel
      cases k with
      | zero =>
        have HV := Lib.hid (show cmpN m n = 0 by
          have e : m = n := cmp_eq (by rw [HE.out.1, HE.out.2]) (fun j hj => HR.out.1 j (Nat.zero_le _) (by rw [HE.out.1] at hj; exact hj))
          rw [e]; exact cmpN_eq n)
        rw [show ((0 : Nat) : Int) - 1 = -1 from rfl]
        go_wp2
        go_ret
        exact ⟨by rw [HV.out]; rfl, HR.out.2⟩
      | succ k =>
        rw [show ((k + 1 : Nat) : Int) - 1 = (k : Int) by omega]
        have hk0 : (0:Int) ≤ (k:Int) := by omega
        have hkl : (k:Int) < (l1:Int) := by omega
        obtain ⟨b, off, rfl, c⟩ := (HX.out.1.below HR.out.2).at (show k < l1 by omega)
        obtain ⟨b2, off2, rfl, d⟩ := (HX.out.2.below HR.out.2).at (show k < l1 by omega)
        obtain ⟨x, hx⟩ : ∃ x, (digs m).getD k 0 = x := ⟨_, rfl⟩
        obtain ⟨y, hy⟩ : ∃ y, (digs n).getD k 0 = y := ⟨_, rfl⟩
        rw [hx] at c
        rw [hy] at d
        have HXY := Lib.hid (And.intro hx hy)
        clear hx hy
        rcases Nat.lt_trichotomy x y with h | h | h
        · have HV := Lib.hid (cmpN_lt (m := m) (n := n) (cmp_lt (i := k) (by rw [HE.out.1, HE.out.2]) (by rw [HE.out.1]; omega) (fun j h1 h2 => HR.out.1 j (by omega) (by rw [HE.out.1] at h2; exact h2)) (by rw [HXY.out.1, HXY.out.2]; exact h)))
          have hd : decide ((x:Int) < (y:Int)) = true := decide_eq_true (by omega)
          have hd2 : decide (x < y) = true := decide_eq_true h
          go_wp2_with fail
          go_quiet (fail)
          go_wp2
          go_ret
          exact ⟨by rw [HV.out]; rfl, bthen HR.out.2 (drewN_below _ _)⟩
        · have hd : decide ((x:Int) < (y:Int)) = false := decide_eq_false (by omega)
          have hd2 : decide (x < y) = false := decide_eq_false (by omega)
          have hd3 : decide ((y:Int) < (x:Int)) = false := decide_eq_false (by omega)
          have hd4 : decide (y < x) = false := decide_eq_false (by omega)
          have HQ := Lib.hid h
          clear h
          go_wp2_with fail
          go_quiet (fail)
          go_wp2
          go_quiet (fail)
          go_wp2
          go_roundw
          case rel => exact ⟨k, by omega, by go_num, Lib.hid ⟨fun j h1 h2 => by
            rcases Nat.lt_or_ge k j with h | h
            · exact HR.out.1 j (by omega) h2
            · obtain rfl : j = k := by omega
              rw [HXY.out.1, HXY.out.2, HQ.out], bthen HR.out.2 (drewN_below _ _)⟩⟩
          case measure => first | (simp [intOf]; done) | (simp [intOf]; omega)
        · have HV := Lib.hid (cmpN_gt (m := m) (n := n) (cmp_lt (i := k) (by rw [HE.out.1, HE.out.2]) (by rw [HE.out.2]; omega) (fun j h1 h2 => (HR.out.1 j (by omega) (by rw [HE.out.2] at h2; exact h2)).symm) (by rw [HXY.out.1, HXY.out.2]; exact h)))
          have hd : decide ((x:Int) < (y:Int)) = false := decide_eq_false (by omega)
          have hd2 : decide (x < y) = false := decide_eq_false (by omega)
          have hd3 : decide ((y:Int) < (x:Int)) = true := decide_eq_true (by omega)
          have hd4 : decide (y < x) = true := decide_eq_true h
          clear h
          go_wp2_with fail
          go_quiet (fail)
          go_wp2
          go_quiet (fail)
          go_wp2
          go_ret
          exact ⟨by rw [HV.out]; rfl, bthen HR.out.2 (bthen (drewN_below _ _) (drewN_below _ _))⟩
  · have HV := Lib.hid (cmpN_gt (m := m) (n := n) (digs_len_lt (by rw [h1.len, h2.len]; exact hl)))
    have hne : ((l1 : Int) != (l2 : Int)) = true := by simp; omega
    have hne2 : ¬ (l1 : Int) = (l2 : Int) := by omega
    have hne3 : (l1 == l2) = false := by rw [beq_eq_false_iff_ne]; omega
    have hli : ¬ (l1 : Int) < (l2 : Int) := by omega
    clear h1 h2
    go_enter Tryz.func135, Tryz.ntmps135
    go_wp2
    go_ret
    exact ⟨by rw [HV.out]; rfl, Below.refl _ _⟩
end B30
end Go.Proofs.YtaneocedklnajaaGreat
/- The reference's numbers of any size: sums and differences. No condition but bounds. -/
namespace Go.Proofs.YtaneocedklnajaaGreat
open Go.RowKit
set_option linter.unusedVariables false
namespace B30

theorem getD_past {l : List Nat} {k : Nat} (h : l.length ≤ k) : l.getD k 0 = 0 := by simp [List.getD, List.getElem?_eq_none h]
theorem getD_lt (n k : Nat) : (digs n).getD k 0 < 1073741824 := by have := dOk_at (digs_ok n) k; rw [bse_eq] at this; exact this
/-- One more digit of a sum is laid behind a list. -/
structure PlI (w : World) (x y : Nat) (k c : Nat) (a : Option Addr) (cp : Nat) (wr : World) : Prop where
  ex : ∃ ds, PlusA (digs x) (digs y) ds k c ∧ GrowAt w wr 2 (.slice a k cp) k ((dI ds).map (Value.int .i64))
  sm : Sm a
set_option maxRecDepth 20000 in
set_option maxHeartbeats 3200000 in
theorem bigPlus_any (x y : Nat) (a1 a2 : Option Addr) (l1 l2 c1 c2 : Nat) (w : World) (hb1 : l1 ≤ 1048576) (hb2 : l2 ≤ 1048576) (h1 : IsBig w a1 l1 x) (h2 : IsBig w a2 l2 y) :
    Calls Tryz.prog 136 #[.slice a1 l1 c1, .slice a2 l2 c2] w (RetBig w (x + y)) := by
  have H0 := Lib.hid (GrowAt.start w 2)
  have HX := Lib.hid (And.intro h1 h2)
  have HL := Lib.hid (And.intro h1.len h2.len)
  clear h1 h2
  go_enter Tryz.func136, Tryz.ntmps136
  go_wp2
  go_loopg [7, 6, 5] (l1 + l2 + 1) (fun g v7 v6 v5 wr => ∃ (k c : Nat) (a : Option Addr) (cp : Nat), k ≤ l1 + l2 + 1 ∧ c ≤ 1 ∧ g = l1 + l2 + 1 - k ∧ v7 = .int .i64 (k : Nat) ∧ v6 = .int .i64 (c : Nat) ∧ v5 = .slice a k cp ∧ (k = l1 + l2 + 1 → c = 0) ∧ Hid (PlI w x y k c a cp wr))
  case atStart => exact ⟨0, 0, _, _, Nat.zero_le _, by omega, rfl, rfl, rfl, rfl, by omega, Lib.hid ⟨⟨[], plusA_start _ _, H0.out⟩, _, _, rfl⟩⟩
  case round =>
    clear H0
    obtain ⟨k, c, a, cp, hk, hc, rfl, rfl, rfl, rfl, hkc, HR⟩ := hrel
    have hk0 : (0:Int) ≤ (k:Int) := by omega
    by_cases hgo : k < l1 ∨ k < l2 ∨ 0 < c
    · have hkl : k < l1 + l2 + 1 := by omega
      obtain ⟨ds, hpl, hgr⟩ := HR.out.ex
      obtain ⟨dx, hdx⟩ : ∃ d, (digs x).getD k 0 = d := ⟨_, rfl⟩
      obtain ⟨dy, hdy⟩ : ∃ d, (digs y).getD k 0 = d := ⟨_, rfl⟩
      have bx := getD_lt x k
      have by' := getD_lt y k
      rw [hdx] at bx
      rw [hdy] at by'
      have hnx := plusA_next (t := c + dx + dy) (digs_ok x) (digs_ok y) (by rw [HL.out.1, HL.out.2]; exact hgo) (by rw [hdx, hdy]) hpl
      rw [bse_eq] at hnx
      obtain ⟨r, hr⟩ : ∃ r, (c + dx + dy) % 1073741824 = r := ⟨_, rfl⟩
      obtain ⟨q, hq⟩ : ∃ q, (c + dx + dy) / 1073741824 = q := ⟨_, rfl⟩
      have hm := mask30 (c + dx + dy) (by omega)
      rw [hr] at hm hnx
      rw [hq] at hnx
      have hq1 := hnx.c1
      have hq2 : ((c + dx + dy : Nat) : Int) / 1073741824 = (q : Int) := by rw [← hq]; simp
      have hr1 : r < 1073741824 := by omega
      have hend : k + 1 = l1 + l2 + 1 → q = 0 := fun e => by
        by_cases h0 : l1 = 0 ∧ l2 = 0
        · obtain ⟨e1, e2⟩ := h0
          have hz1 : dx = 0 := by rw [← hdx]; exact getD_past (by rw [HL.out.1]; omega)
          have hz2 : dy = 0 := by rw [← hdy]; exact getD_past (by rw [HL.out.2]; omega)
          omega
        · have hv := hnx.val
          rcases Nat.eq_zero_or_pos q with h | h
          · exact h
          · exfalso
            rw [List.take_of_length_le (by rw [HL.out.1]; omega), List.take_of_length_le (by rw [HL.out.2]; omega), dval_digs, dval_digs] at hv
            have k1 := digs_lt x
            have k2 := digs_lt y
            rw [HL.out.1] at k1
            rw [HL.out.2] at k2
            have k3 : bse ^ l1 ≤ bse ^ (l1 + l2) := Nat.pow_le_pow_right bse_pos (by omega)
            have k4 : bse ^ l2 ≤ bse ^ (l1 + l2) := Nat.pow_le_pow_right bse_pos (by omega)
            have k5 : bse ^ (k + 1) = bse ^ (l1 + l2) * bse := by rw [e, Nat.pow_succ]
            have k6 : bse ^ (l1 + l2) * 2 ≤ bse ^ (l1 + l2) * bse := Nat.mul_le_mul_left _ (by decide)
            have k7 : bse ^ (k + 1) * 1 ≤ bse ^ (k + 1) * q := Nat.mul_le_mul_left _ h
            omega
      have HN := Lib.hid hnx
      have HG := Lib.hid hgr
      have HLen := Lib.hid hpl.len
      have hcr : ((c : Nat) : Int) + (dx : Int) + (dy : Int) = ((c + dx + dy : Nat) : Int) := by omega
      have HDX := Lib.hid (And.intro hdx hdy)
      have HHQ := Lib.hid (And.intro hr hq)
      clear hnx hgr hpl hdx hdy hr hq HR
      by_cases h1 : k < l1
      · by_cases h2 : k < l2
        · have hi1 : (k:Int) < (l1:Int) := by omega
          have hi2 : (k:Int) < (l2:Int) := by omega
          have hE : ((c + dx + dy : Nat) : Int) = (c : Int) + (dx : Int) + (dy : Int) := by omega
          rw [hE] at hm hq2
          clear hE hcr
          obtain ⟨b, off, rfl, e1⟩ := (HX.out.1.below HG.out.2).at h1
          rw [HDX.out.1] at e1
          obtain ⟨b2, off2, rfl, e2⟩ := (HX.out.2.below HG.out.2).at h2
          rw [HDX.out.2] at e2
          have HOW := Lib.hid (HG.out.alloc (.cells #[.int .i64 (r : Int)] 2)).1
          go_wp2_with (at_builtin; refine wpList_ap1 rfl (.tmp 45) (.tmp 48) 53 rfl w.heap.size 2 (.int .i64 0) 8 Tryz.underlying53 Tryz.infoI rfl _ k _ rfl HOW.out wr.heap.size (.int .i64 (r : Int)) rfl (by go_simp) rfl (by omega) (by omega) (by have := HG.out.2.size; simp only [alloc_size]; omega) ?_)
          intro v' w6 hown hgrow _
          obtain ⟨a6, c6, rfl⟩ := own_form hown
          have HSM := Lib.hid (own_sm hown)
          have HG3 := Lib.hid (grow_push HG.out hown hgrow)
          clear hown hgrow
          go_wp2
          go_roundg (l1 + l2 + 1 - (k + 1))
          case measure => omega
          case rel => exact ⟨k + 1, q, a6, c6, by omega, hq1, rfl, by go_num, rfl, rfl, hend, Lib.hid ⟨⟨ds ++ [r], HN.out, by rw [dI_snoc]; exact HG3.out⟩, HSM.out⟩⟩
        · have hi1 : (k:Int) < (l1:Int) := by omega
          have hi2 : ¬ (k:Int) < (l2:Int) := by omega
          obtain rfl : dy = 0 := by rw [← HDX.out.2]; exact getD_past (by rw [HL.out.2]; omega)
          have hE : ((c + dx + 0 : Nat) : Int) = (c : Int) + (dx : Int) := by omega
          rw [hE] at hm hq2
          clear hE hcr
          obtain ⟨b, off, rfl, e1⟩ := (HX.out.1.below HG.out.2).at h1
          rw [HDX.out.1] at e1
          have HOW := Lib.hid (HG.out.alloc (.cells #[.int .i64 (r : Int)] 2)).1
          go_wp2_with (at_builtin; refine wpList_ap1 rfl (.tmp 45) (.tmp 48) 53 rfl w.heap.size 2 (.int .i64 0) 8 Tryz.underlying53 Tryz.infoI rfl _ k _ rfl HOW.out wr.heap.size (.int .i64 (r : Int)) rfl (by go_simp) rfl (by omega) (by omega) (by have := HG.out.2.size; simp only [alloc_size]; omega) ?_)
          intro v' w6 hown hgrow _
          obtain ⟨a6, c6, rfl⟩ := own_form hown
          have HSM := Lib.hid (own_sm hown)
          have HG3 := Lib.hid (grow_push HG.out hown hgrow)
          clear hown hgrow
          go_wp2
          go_roundg (l1 + l2 + 1 - (k + 1))
          case measure => omega
          case rel => exact ⟨k + 1, q, a6, c6, by omega, hq1, rfl, by go_num, rfl, rfl, hend, Lib.hid ⟨⟨ds ++ [r], HN.out, by rw [dI_snoc]; exact HG3.out⟩, HSM.out⟩⟩
      · by_cases h2 : k < l2
        · have hi1 : ¬ (k:Int) < (l1:Int) := by omega
          have hi2 : (k:Int) < (l2:Int) := by omega
          obtain rfl : dx = 0 := by rw [← HDX.out.1]; exact getD_past (by rw [HL.out.1]; omega)
          have hE : ((c + 0 + dy : Nat) : Int) = (c : Int) + (dy : Int) := by omega
          rw [hE] at hm hq2
          clear hE hcr
          obtain ⟨b2, off2, rfl, e2⟩ := (HX.out.2.below HG.out.2).at h2
          rw [HDX.out.2] at e2
          have HOW := Lib.hid (HG.out.alloc (.cells #[.int .i64 (r : Int)] 2)).1
          go_wp2_with (at_builtin; refine wpList_ap1 rfl (.tmp 45) (.tmp 48) 53 rfl w.heap.size 2 (.int .i64 0) 8 Tryz.underlying53 Tryz.infoI rfl _ k _ rfl HOW.out wr.heap.size (.int .i64 (r : Int)) rfl (by go_simp) rfl (by omega) (by omega) (by have := HG.out.2.size; simp only [alloc_size]; omega) ?_)
          intro v' w6 hown hgrow _
          obtain ⟨a6, c6, rfl⟩ := own_form hown
          have HSM := Lib.hid (own_sm hown)
          have HG3 := Lib.hid (grow_push HG.out hown hgrow)
          clear hown hgrow
          go_wp2
          go_roundg (l1 + l2 + 1 - (k + 1))
          case measure => omega
          case rel => exact ⟨k + 1, q, a6, c6, by omega, hq1, rfl, by go_num, rfl, rfl, hend, Lib.hid ⟨⟨ds ++ [r], HN.out, by rw [dI_snoc]; exact HG3.out⟩, HSM.out⟩⟩
        · have hi1 : ¬ (k:Int) < (l1:Int) := by omega
          have hi2 : ¬ (k:Int) < (l2:Int) := by omega
          obtain rfl : dx = 0 := by rw [← HDX.out.1]; exact getD_past (by rw [HL.out.1]; omega)
          obtain rfl : dy = 0 := by rw [← HDX.out.2]; exact getD_past (by rw [HL.out.2]; omega)
          have hc0 : (0:Int) < (c:Int) := by omega
          have hE : ((c + 0 + 0 : Nat) : Int) = (c : Int) := by omega
          rw [hE] at hm hq2
          clear hE hcr
          have HOW := Lib.hid (HG.out.alloc (.cells #[.int .i64 (r : Int)] 2)).1
          go_wp2_with (at_builtin; refine wpList_ap1 rfl (.tmp 45) (.tmp 48) 53 rfl w.heap.size 2 (.int .i64 0) 8 Tryz.underlying53 Tryz.infoI rfl _ k _ rfl HOW.out wr.heap.size (.int .i64 (r : Int)) rfl (by go_simp) rfl (by omega) (by omega) (by have := HG.out.2.size; simp only [alloc_size]; omega) ?_)
          intro v' w6 hown hgrow _
          obtain ⟨a6, c6, rfl⟩ := own_form hown
          have HSM := Lib.hid (own_sm hown)
          have HG3 := Lib.hid (grow_push HG.out hown hgrow)
          clear hown hgrow
          go_wp2
          go_roundg (l1 + l2 + 1 - (k + 1))
          case measure => omega
          case rel => exact ⟨k + 1, q, a6, c6, by omega, hq1, rfl, by go_num, rfl, rfl, hend, Lib.hid ⟨⟨ds ++ [r], HN.out, by rw [dI_snoc]; exact HG3.out⟩, HSM.out⟩⟩
    · have hi1 : ¬ (k:Int) < (l1:Int) := by omega
      have hi2 : ¬ (k:Int) < (l2:Int) := by omega
      obtain rfl : c = 0 := by omega
      obtain ⟨ds, hpl, hgr⟩ := HR.out.ex
      have hds := plusA_end (by rw [HL.out.1]; omega) (by rw [HL.out.2]; omega) hpl
      have hsm := HR.out.sm
      have HD := Lib.hid (And.intro hpl.len (And.intro hds (And.intro hgr hsm)))
      clear hpl hgr hds HR hgo hsm
      go_wp2
      go_ret
      refine ⟨a, cp, k, rfl, ⟨HD.out.2.2.2, by rw [← HD.out.2.1]; exact HD.out.1, ?_⟩, own_capok HD.out.2.2.1.1, HD.out.2.2.1.2, own_new HD.out.2.2.1.1 HD.out.2.2.2⟩
      have := IsInts.of_own (zs := dI ds) HD.out.2.2.1.1
      rw [← HD.out.2.1]; exact this
end B30
end Go.Proofs.YtaneocedklnajaaGreat
/- The reference's numbers of any size: differences. No condition but bounds. -/
namespace Go.Proofs.YtaneocedklnajaaGreat
open Go.RowKit
set_option linter.unusedVariables false
namespace B30

theorem ints_take {w : World} {a : Option Addr} {l n : Nat} {zs : List Int} (h : IsInts w a l zs) (hn : n ≤ l) : IsInts w a n (zs.take n) :=
  ⟨by rw [List.length_take, h.1]; omega, fun j hj => by
    obtain ⟨b, off, e, c⟩ := h.2 j (by omega)
    refine ⟨b, off, e, ?_⟩
    rw [c]
    simp [List.getD, hj]⟩
theorem dI_take (ds : List Nat) (n : Nat) : dI (ds.take n) = (dI ds).take n := by simp [dI, List.map_take]
/-- What is read behind the zeros at the end. -/
theorem isBig_trim {w : World} {a : Option Addr} {l n v : Nat} {ds : List Nat} (h : IsInts w a l (dI ds)) (hd : dOk ds) (hl : ds.length = l) (ht : TrimR ds n) (h0 : n = 0 ∨ ds.getD (n - 1) 0 ≠ 0) (hv : dval ds = v) (hs : Sm a) : IsBig w a n v := by
  have e := trimR_end hd ht h0
  rw [hv] at e
  have hn := ht.le
  refine ⟨hs, by rw [← e, List.length_take]; omega, ?_⟩
  rw [← e, dI_take]
  exact ints_take h (by omega)
theorem own_cap {w : World} {B T sz : Nat} {a : Option Addr} {n c : Nat} {xs : List Value} (h : w.ownsRow B T sz (.slice a n c) n xs) : n ≤ c := by
  rcases h.2 with ⟨e, _⟩ | ⟨g, c', cur, e, _, _, h1, _⟩
  · simp only [Value.slice.injEq] at e; omega
  · simp only [Value.slice.injEq] at e; omega
/-- One more digit of a difference is laid behind a list. -/
structure MiI (w : World) (x y : Nat) (k c : Nat) (a : Option Addr) (cp : Nat) (wr : World) : Prop where
  ex : ∃ ds, MinusA (digs x) (digs y) ds k c ∧ GrowAt w wr 2 (.slice a k cp) k ((dI ds).map (Value.int .i64))
  sm : Sm a
set_option maxRecDepth 20000 in
set_option maxHeartbeats 6400000 in
theorem bigMinus_any (x y : Nat) (a1 a2 : Option Addr) (l1 l2 c1 c2 : Nat) (w : World) (hb1 : l1 ≤ 1048576) (hle : y ≤ x) (h1 : IsBig w a1 l1 x) (h2 : IsBig w a2 l2 y) :
    Calls Tryz.prog 137 #[.slice a1 l1 c1, .slice a2 l2 c2] w (RetBig w (x - y)) := by
  have H0 := Lib.hid (GrowAt.start w 2)
  have HX := Lib.hid (And.intro h1 h2)
  have HL := Lib.hid (And.intro h1.len h2.len)
  have hl21 : l2 ≤ l1 := by rw [← h1.len, ← h2.len]; exact digs_len_mono hle
  clear h1 h2
  go_enter Tryz.func137, Tryz.ntmps137
  go_wp2
  go_loopg [7, 6, 5, 8] l1 (fun g v7 v6 v5 v8 wr => ∃ (k c : Nat) (a : Option Addr) (cp : Nat), k ≤ l1 ∧ c ≤ 1 ∧ g = l1 - k ∧ v7 = .int .i64 (k : Nat) ∧ v6 = .int .i64 (c : Nat) ∧ v5 = .slice a k cp ∧ Hid (MiI w x y k c a cp wr))
  case atStart => exact ⟨0, 0, _, _, Nat.zero_le _, by omega, rfl, rfl, rfl, rfl, Lib.hid ⟨⟨[], minusA_start _ _, H0.out⟩, _, _, rfl⟩⟩
  case round =>
    clear H0
    obtain ⟨k, c, a, cp, hk, hc, rfl, rfl, rfl, rfl, HR⟩ := hrel
    have hk0 : (0:Int) ≤ (k:Int) := by omega
    by_cases hgo : k < l1
    · have hki : (k:Int) < (l1:Int) := by omega
      obtain ⟨ds, hpl, hgr⟩ := HR.out.ex
      obtain ⟨dx, hdx⟩ : ∃ d, (digs x).getD k 0 = d := ⟨_, rfl⟩
      obtain ⟨dy, hdy⟩ : ∃ d, (digs y).getD k 0 = d := ⟨_, rfl⟩
      have bx := getD_lt x k
      have by' := getD_lt y k
      rw [hdx] at bx
      rw [hdy] at by'
      have HG := Lib.hid hgr
      have HP := Lib.hid hpl
      have HDX := Lib.hid (And.intro hdx hdy)
      obtain ⟨b, off, rfl, e1⟩ := (HX.out.1.below HG.out.2).at hgo
      rw [hdx] at e1
      clear hgr hpl hdx hdy HR
      by_cases h2 : k < l2
      · by_cases hneg : dx < c + dy
        · obtain ⟨b2, off2, rfl, e2⟩ := (HX.out.2.below HG.out.2).at h2
          rw [HDX.out.2] at e2
          have hi2 : (k:Int) < (l2:Int) := by omega
          obtain ⟨r, hr⟩ : ∃ r, dx + 1073741824 - c - dy = r := ⟨_, rfl⟩
          have hrI : (dx : Int) - (c : Int) - (dy : Int) + 1073741824 = (r : Int) := by omega
          have hn0 : (dx : Int) - (c : Int) - (dy : Int) < 0 := by omega
          have HN := Lib.hid (minusA_next (d := r) (r' := 1) (by rw [bse_eq]; omega) (by omega) (by rw [HDX.out.1, HDX.out.2, bse_eq]; omega) HP.out)
          have hr1 : r < 1073741824 := by omega
          clear hr
          have HOW := Lib.hid (HG.out.alloc (.cells #[.int .i64 (r : Int)] 2)).1
          go_wp2_with (at_builtin; refine wpList_ap1 rfl (.tmp 36) (.tmp 38) 53 rfl w.heap.size 2 (.int .i64 0) 8 Tryz.underlying53 Tryz.infoI rfl _ k _ rfl HOW.out wr.heap.size (.int .i64 (r : Int)) rfl (by go_simp) rfl (by omega) (by omega) (by have := HG.out.2.size; simp only [alloc_size]; omega) ?_)
          intro v' w6 hown hgrow _
          obtain ⟨a6, c6, rfl⟩ := own_form hown
          have HSM := Lib.hid (own_sm hown)
          have HG3 := Lib.hid (grow_push HG.out hown hgrow)
          clear hown hgrow
          go_wp2
          go_roundg (l1 - (k + 1))
          case measure => omega
          case rel => exact ⟨k + 1, 1, a6, c6, by omega, by omega, rfl, by go_num, rfl, rfl, Lib.hid ⟨⟨ds ++ [r], HN.out, by rw [dI_snoc]; exact HG3.out⟩, HSM.out⟩⟩
        · obtain ⟨b2, off2, rfl, e2⟩ := (HX.out.2.below HG.out.2).at h2
          rw [HDX.out.2] at e2
          have hi2 : (k:Int) < (l2:Int) := by omega
          obtain ⟨r, hr⟩ : ∃ r, dx - c - dy = r := ⟨_, rfl⟩
          have hrI : (dx : Int) - (c : Int) - (dy : Int) = (r : Int) := by omega
          have hn0 : ¬ (r : Int) < 0 := by omega
          have HN := Lib.hid (minusA_next (d := r) (r' := 0) (by rw [bse_eq]; omega) (by omega) (by rw [HDX.out.1, HDX.out.2, bse_eq]; omega) HP.out)
          have hr1 : r < 1073741824 := by omega
          clear hr
          have HOW := Lib.hid (HG.out.alloc (.cells #[.int .i64 (r : Int)] 2)).1
          go_wp2_with (at_builtin; refine wpList_ap1 rfl (.tmp 36) (.tmp 38) 53 rfl w.heap.size 2 (.int .i64 0) 8 Tryz.underlying53 Tryz.infoI rfl _ k _ rfl HOW.out wr.heap.size (.int .i64 (r : Int)) rfl (by go_simp) rfl (by omega) (by omega) (by have := HG.out.2.size; simp only [alloc_size]; omega) ?_)
          intro v' w6 hown hgrow _
          obtain ⟨a6, c6, rfl⟩ := own_form hown
          have HSM := Lib.hid (own_sm hown)
          have HG3 := Lib.hid (grow_push HG.out hown hgrow)
          clear hown hgrow
          go_wp2
          go_roundg (l1 - (k + 1))
          case measure => omega
          case rel => exact ⟨k + 1, 0, a6, c6, by omega, by omega, rfl, by go_num, rfl, rfl, Lib.hid ⟨⟨ds ++ [r], HN.out, by rw [dI_snoc]; exact HG3.out⟩, HSM.out⟩⟩
      · by_cases hneg : dx < c
        · obtain rfl : dy = 0 := by rw [← HDX.out.2]; exact getD_past (by rw [HL.out.2]; omega)
          have hi2 : ¬ (k:Int) < (l2:Int) := by omega
          obtain ⟨r, hr⟩ : ∃ r, dx + 1073741824 - c - 0 = r := ⟨_, rfl⟩
          have hrI : (dx : Int) - (c : Int) + 1073741824 = (r : Int) := by omega
          have hn0 : (dx : Int) - (c : Int) < 0 := by omega
          have HN := Lib.hid (minusA_next (d := r) (r' := 1) (by rw [bse_eq]; omega) (by omega) (by rw [HDX.out.1, HDX.out.2, bse_eq]; omega) HP.out)
          have hr1 : r < 1073741824 := by omega
          clear hr
          have HOW := Lib.hid (HG.out.alloc (.cells #[.int .i64 (r : Int)] 2)).1
          go_wp2_with (at_builtin; refine wpList_ap1 rfl (.tmp 36) (.tmp 38) 53 rfl w.heap.size 2 (.int .i64 0) 8 Tryz.underlying53 Tryz.infoI rfl _ k _ rfl HOW.out wr.heap.size (.int .i64 (r : Int)) rfl (by go_simp) rfl (by omega) (by omega) (by have := HG.out.2.size; simp only [alloc_size]; omega) ?_)
          intro v' w6 hown hgrow _
          obtain ⟨a6, c6, rfl⟩ := own_form hown
          have HSM := Lib.hid (own_sm hown)
          have HG3 := Lib.hid (grow_push HG.out hown hgrow)
          clear hown hgrow
          go_wp2
          go_roundg (l1 - (k + 1))
          case measure => omega
          case rel => exact ⟨k + 1, 1, a6, c6, by omega, by omega, rfl, by go_num, rfl, rfl, Lib.hid ⟨⟨ds ++ [r], HN.out, by rw [dI_snoc]; exact HG3.out⟩, HSM.out⟩⟩
        · obtain rfl : dy = 0 := by rw [← HDX.out.2]; exact getD_past (by rw [HL.out.2]; omega)
          have hi2 : ¬ (k:Int) < (l2:Int) := by omega
          obtain ⟨r, hr⟩ : ∃ r, dx - c - 0 = r := ⟨_, rfl⟩
          have hrI : (dx : Int) - (c : Int) = (r : Int) := by omega
          have hn0 : ¬ (r : Int) < 0 := by omega
          have HN := Lib.hid (minusA_next (d := r) (r' := 0) (by rw [bse_eq]; omega) (by omega) (by rw [HDX.out.1, HDX.out.2, bse_eq]; omega) HP.out)
          have hr1 : r < 1073741824 := by omega
          clear hr
          have HOW := Lib.hid (HG.out.alloc (.cells #[.int .i64 (r : Int)] 2)).1
          go_wp2_with (at_builtin; refine wpList_ap1 rfl (.tmp 36) (.tmp 38) 53 rfl w.heap.size 2 (.int .i64 0) 8 Tryz.underlying53 Tryz.infoI rfl _ k _ rfl HOW.out wr.heap.size (.int .i64 (r : Int)) rfl (by go_simp) rfl (by omega) (by omega) (by have := HG.out.2.size; simp only [alloc_size]; omega) ?_)
          intro v' w6 hown hgrow _
          obtain ⟨a6, c6, rfl⟩ := own_form hown
          have HSM := Lib.hid (own_sm hown)
          have HG3 := Lib.hid (grow_push HG.out hown hgrow)
          clear hown hgrow
          go_wp2
          go_roundg (l1 - (k + 1))
          case measure => omega
          case rel => exact ⟨k + 1, 0, a6, c6, by omega, by omega, rfl, by go_num, rfl, rfl, Lib.hid ⟨⟨ds ++ [r], HN.out, by rw [dI_snoc]; exact HG3.out⟩, HSM.out⟩⟩
    · obtain rfl : k = l1 := by omega
      obtain ⟨ds, hpl, hgr⟩ := HR.out.ex
      have hlx := HL.out.1
      have hds : dval ds = x - y := by
        have := minusA_end (a := digs x) (b := digs y) (by rw [dval_digs, dval_digs]; exact hle) (by rw [HL.out.1, HL.out.2]; omega) (by rw [HL.out.1]; exact hpl)
        rw [dval_digs, dval_digs] at this
        exact this
      have hcap := own_cap hgr.1
      have HCO := Lib.hid (own_capok hgr.1)
      have HNW := Lib.hid (own_new hgr.1 HR.out.sm)
      have HSM := Lib.hid HR.out.sm
      have HD := Lib.hid (And.intro hpl.len (And.intro hpl.ok (And.intro hds (And.intro (IsInts.of_own (zs := dI ds) hgr.1) hgr.2))))
      clear hpl hgr hds HR hlx
      go_wp2
      go_loop [5] (fun v5 => ∃ n : Nat, n ≤ k ∧ v5 = .slice a n cp ∧ Hid (TrimR ds n)) (fun v5 => match v5 with | .slice _ n _ => n | _ => 0)
      case atStart => exact ⟨k, Nat.le_refl _, rfl, Lib.hid (by have := trimR_start ds; rw [HD.out.1] at this; exact this)⟩
      case round =>
        obtain ⟨n, hn, rfl, HT⟩ := hrel
        cases n with
        | zero =>
          go_wp2
          go_ret
          exact ⟨a, cp, 0, rfl, isBig_trim HD.out.2.2.2.1 HD.out.2.1 HD.out.1 HT.out (Or.inl rfl) HD.out.2.2.1 HSM.out, HCO.out.less (Nat.zero_le _), HD.out.2.2.2.2, HNW.out⟩
        | succ n =>
          obtain ⟨b, off, rfl, e1⟩ := HD.out.2.2.2.1.at (show n < k by omega)
          rw [dI_at] at e1
          obtain ⟨d, hd⟩ : ∃ d, ds.getD n 0 = d := ⟨_, rfl⟩
          rw [hd] at e1
          have HDD := Lib.hid hd
          clear hd
          have hn0 : (0:Int) ≤ (n:Int) := by omega
          have hnw : IntKind.i64.wrap (n:Int) = (n:Int) := IntWalk.i64_in _ (by omega)
          have hn1 : (0:Int) < (n:Int) + 1 := by omega
          have hnc : (n:Int) ≤ (cp:Int) := by omega
          have hnc2 : n ≤ cp := by omega
          by_cases hd0 : d = 0
          · subst hd0
            go_wp2
            go_round
            case rel => exact ⟨n, by omega, rfl, Lib.hid (trimR_next HT.out HDD.out)⟩
            case measure => simp
          · have hdn : ((d : Int) == 0) = false := by rw [beq_eq_false_iff_ne]; omega
            have hdn2 : ¬ (d : Int) = 0 := by omega
            have hdn3 : (d == 0) = false := by rw [beq_eq_false_iff_ne]; exact hd0
            go_wp2
            go_ret
            exact ⟨_, cp, n + 1, rfl, isBig_trim HD.out.2.2.2.1 HD.out.2.1 HD.out.1 HT.out (Or.inr (by rw [Nat.add_sub_cancel, HDD.out]; exact hd0)) HD.out.2.2.1 HSM.out, HCO.out.less hn, HD.out.2.2.2.2, HNW.out⟩
end B30
end Go.Proofs.YtaneocedklnajaaGreat
/- The reference's numbers of any size: products. No condition but bounds. -/
namespace Go.Proofs.YtaneocedklnajaaGreat
open Go.RowKit
set_option linter.unusedVariables false
namespace B30

theorem zeros_dI (n : Nat) : (madeCells #[Value.int .i64 0] n).toList = (dI (List.replicate n 0)).map (Value.int .i64) := by
  rw [toList_madeCells_one]; simp [dI]
/-- The row in which a product grows. -/
structure RowD (w : World) (g L : Nat) (ds : List Nat) (wr : World) : Prop where
  own : wr.ownsRow g 2 1 (.slice (some ⟨g, 0, none⟩) L L) L ((dI ds).map (Value.int .i64))
  len : ds.length = L
  bel : Below g w wr
  gw : g = w.heap.size
theorem RowD.at {w wr : World} {g L : Nat} {ds : List Nat} (h : RowD w g L ds wr) {j : Nat} (hj : j < L) : wr.cell? ⟨g, j, none⟩ = some (.int .i64 ((ds.getD j 0 : Nat) : Int)) ∧ wr.frozen? ⟨g, j, none⟩ = false := by
  refine ⟨?_, h.own.frozenAt j⟩
  have hl := h.len
  rw [h.own.cellAt j (by omega)]
  simp [dI, List.getD, List.getElem?_eq_getElem (show j < ds.length by omega)]
theorem RowD.put {w wr : World} {g L : Nat} {ds : List Nat} (h : RowD w g L ds wr) (j v : Nat) : RowD w g L (ds.set j v) (wr.setCell ⟨g, j, none⟩ (.int .i64 ((v : Nat) : Int))) := by
  have := h.own.stored j (.int .i64 ((v : Nat) : Int))
  refine ⟨?_, by rw [List.length_set]; exact h.len, h.bel.setCell (p := ⟨g, j, none⟩) (Nat.le_refl g) _, h.gw⟩
  have e : ((dI ds).map (Value.int .i64)).set j (.int .i64 ((v : Nat) : Int)) = (dI (ds.set j v)).map (Value.int .i64) := by
    simp [dI, List.map_set]
  rw [← e]; exact this.1
theorem RowD.draw {w wr : World} {g L : Nat} {ds : List Nat} (h : RowD w g L ds wr) (n : Nat) : RowD w g L ds (wr.drewN n) := ⟨h.own, h.len, h.bel.trans ((drewN_below wr n).mono (by have := h.bel.size; have := h.gw; omega)), h.gw⟩
theorem RowD.rd {w wr : World} {g L : Nat} {ds : List Nat} (h : RowD w g L ds wr) : IsInts wr (some ⟨g, 0, none⟩) L (dI ds) := IsInts.of_own (zs := dI ds) h.own
theorem set_same {ds : List Nat} {j v : Nat} (h : ds.getD j 0 = v) (hj : j < ds.length) : ds.set j v = ds := by
  apply List.ext_getElem (by simp)
  intro i h1 h2
  rw [List.getElem_set]
  split
  · rename_i e; subst e; simp [List.getD, hj] at h; exact h.symm
  · rfl
set_option maxRecDepth 20000 in
set_option maxHeartbeats 6400000 in
theorem bigTimes_any (x y : Nat) (a1 a2 : Option Addr) (l1 l2 c1 c2 : Nat) (w : World) (hb1 : l1 ≤ 524288) (hb2 : l2 ≤ 524288) (h1 : IsBig w a1 l1 x) (h2 : IsBig w a2 l2 y) :
    Calls Tryz.prog 67 #[.slice a1 l1 c1, .slice a2 l2 c2] w (RetBig w (x * y)) := by
  obtain ⟨i0, hi, hz0, hz1, hz2⟩ := info_parts Tryz.infoI
  have HX := Lib.hid (And.intro h1 h2)
  have HL := Lib.hid (And.intro h1.len h2.len)
  clear h1 h2
  go_enter Tryz.func67, Tryz.ntmps67
  go_wp2_with (at_make; refine wpList_make_full _ rfl _ _ 53 rfl w.heap.size 2 i0 (.int .i64 0) 1 Tryz.underlying53 hi hz0 hz1 _ _ _ _ (l1 + l2) rfl rfl (by omega) (by omega) ?c1 ?c2 ?c3 ?_)
  case c1 => rw [hz2]; omega
  case c2 => unfold maxLen; omega
  case c3 => exact Nat.le_refl _
  intro w1 hown hgrow
  have hbw : Below w.heap.size w w1 := (Below.refl _ _).grown hgrow (Nat.le_refl _) (by simp)
  rw [zeros_dI] at hown
  obtain ⟨L, hLL⟩ : ∃ L, l1 + l2 = L := ⟨_, rfl⟩
  rw [hLL] at hown ⊢
  have H0 := Lib.hid (show RowD w w.heap.size L (List.replicate L 0) w1 from ⟨hown, by simp, hbw, rfl⟩)
  obtain ⟨g, hg⟩ : ∃ g, w.heap.size = g := ⟨_, rfl⟩
  rw [hg] at H0 ⊢
  clear hown hgrow hbw hg
  go_wp2
  go_loopg [6, 7, 8] l1 (fun gh v6 v7 v8 wr => ∃ (i : Nat) (ds : List Nat), i ≤ l1 ∧ gh = l1 - i ∧ v6 = .int .i64 (i : Nat) ∧ Hid (TimesR (digs x) (digs y) ds i ∧ RowD w g L ds wr))
  case atStart => exact ⟨0, _, Nat.zero_le _, rfl, rfl, Lib.hid ⟨timesR_start _ _ _, H0.out⟩⟩
  case round =>
    clear H0
    obtain ⟨i, ds, hil, rfl, rfl, HR⟩ := hrel
    have hi0 : (0:Int) ≤ (i:Int) := by omega
    by_cases hgo : i < l1
    · have hii : (i:Int) < (l1:Int) := by omega
      obtain ⟨da, hda⟩ : ∃ d, (digs x).getD i 0 = d := ⟨_, rfl⟩
      have ba := getD_lt x i
      rw [hda] at ba
      have HDA := Lib.hid hda
      clear hda
      obtain ⟨wo, hwo⟩ : ∃ wo : World, wo = wr := ⟨_, rfl⟩
      subst hwo
      go_wp2
      go_loopg [8, 7] (l2 + 2) (fun gh v8 v7 wx => ∃ (k c : Nat) (es : List Nat), k ≤ l2 + 1 ∧ c < 1073741824 ∧ gh = l2 + 2 - k ∧ v8 = .int .i64 (k : Nat) ∧ v7 = .int .i64 (c : Nat) ∧ (k = l2 + 1 → c = 0) ∧ Hid (((k ≤ l2 ∧ TimesS (digs x) (digs y) es i k c) ∨ (k = l2 + 1 ∧ TimesR (digs x) (digs y) es (i + 1))) ∧ RowD w g L es wx))
      case atStart => exact ⟨0, 0, ds, Nat.zero_le _, by omega, rfl, rfl, rfl, by omega, Lib.hid ⟨Or.inl ⟨Nat.zero_le _, timesS_start HR.out.1⟩, HR.out.2⟩⟩
      case round =>
        obtain ⟨k, c, es, hk, hc, rfl, rfl, rfl, hkc, HS⟩ := hrel
        have hk0 : (0:Int) ≤ (k:Int) := by omega
        by_cases hkl : k < l2
        · have hts : TimesS (digs x) (digs y) es i k c := by
            rcases HS.out.1 with h | h
            · exact h.2
            · omega
          have hki : (k:Int) < (l2:Int) := by omega
          obtain ⟨db, hdb⟩ : ∃ d, (digs y).getD k 0 = d := ⟨_, rfl⟩
          obtain ⟨o, ho⟩ : ∃ d, es.getD (i + k) 0 = d := ⟨_, rfl⟩
          have bb := getD_lt y k
          rw [hdb] at bb
          have bo := dOk_at hts.1 (i + k)
          rw [bse_eq, ho] at bo
          obtain ⟨e3, e4⟩ := HS.out.2.at (show i + k < L by omega)
          rw [ho] at e3
          obtain ⟨b, off, rfl, e1⟩ := (HX.out.1.below (by have := HS.out.2.bel; rw [HS.out.2.gw] at this; exact this)).at hgo
          obtain ⟨b2, off2, rfl, e2⟩ := (HX.out.2.below (by have := HS.out.2.bel; rw [HS.out.2.gw] at this; exact this)).at hkl
          rw [HDA.out] at e1
          rw [hdb] at e2
          obtain ⟨P, hP⟩ : ∃ P, da * db = P := ⟨_, rfl⟩
          have hPb : P ≤ 1073741823 * 1073741823 := by rw [← hP]; exact Nat.mul_le_mul (by omega) (by omega)
          have hPw : IntKind.i64.wrap ((da:Int) * (db:Int)) = (P:Int) := by rw [← Int.natCast_mul, hP]; exact IntWalk.i64_in _ (by omega)
          have hPi : (da:Int) * (db:Int) = (P:Int) := by rw [← Int.natCast_mul, hP]
          have HN := Lib.hid (timesS_next (t := c + o + P) (digs_ok x) (digs_ok y) (by rw [HL.out.2]; exact hkl) (by rw [HS.out.2.len]; omega) (by rw [ho, HDA.out, hdb, hP]) hts)
          rw [bse_eq] at HN
          obtain ⟨t, ht⟩ : ∃ t, c + o + P = t := ⟨_, rfl⟩
          rw [ht] at HN
          have hm := mask30 t (by omega)
          obtain ⟨r, hr⟩ : ∃ r, t % 1073741824 = r := ⟨_, rfl⟩
          obtain ⟨q, hq⟩ : ∃ q, t / 1073741824 = q := ⟨_, rfl⟩
          rw [hr] at hm HN
          rw [hq] at HN
          have hq2 : (t : Int) / 1073741824 = (q : Int) := by rw [← hq]; simp
          have hqb : q < 1073741824 := by omega
          have htb : t < 9223372036854775808 := by omega
          have htI : (c : Int) + (o : Int) + (P : Int) = (t : Int) := by omega
          have htw : IntKind.i64.wrap (t : Int) = (t : Int) := IntWalk.i64_in _ (by omega)
          have HP := Lib.hid (And.intro (HS.out.2.put (i + k) r) (And.intro hPb hr))
          clear hr hq ht hP hts hdb ho hPb
          have hik : (i:Int) + (k:Int) < (L:Int) := by omega
          go_wp2_with fail
          go_quiet (fail)
          go_wp2
          go_roundg (l2 + 2 - (k + 1))
          case measure => omega
          case rel => exact ⟨k + 1, q, es.set (i + k) r, by omega, hqb, rfl, by go_num, rfl, by omega, Lib.hid ⟨Or.inl ⟨by omega, HN.out.1⟩, (HS.out.2.draw _).put (i + k) r⟩⟩
        · have hki : ¬ (k:Int) < (l2:Int) := by omega
          by_cases hc0 : 0 < c
          · obtain rfl : k = l2 := by omega
            have hci : (0:Int) < (c:Int) := by omega
            have hts : TimesS (digs x) (digs y) es i k c := by
              rcases HS.out.1 with h | h
              · exact h.2
              · omega
            obtain ⟨e3, e4⟩ := HS.out.2.at (show i + k < L by omega)
            have ho : es.getD (i + k) 0 = 0 := hts.2.2.2 _ (by rw [HL.out.2]; exact Nat.le_refl _)
            rw [ho] at e3
            have hm := mask30 c (by omega)
            rw [Nat.mod_eq_of_lt hc] at hm
            have hq2 : (c : Int) / 1073741824 = 0 := by omega
            have hik : (i:Int) + (k:Int) < (L:Int) := by omega
            have HN := Lib.hid (show TimesR (digs x) (digs y) (es.set (i + k) c) (i + 1) by
              have := timesS_end (a := digs x) (b := digs y) (ds := es) (i := i) (c := c) (by rw [HL.out.2, HS.out.2.len]; omega) (by rw [HL.out.2]; exact hts)
              rw [HL.out.2] at this; exact this)
            have HP := Lib.hid (HS.out.2.put (i + k) c)
            clear ho hts
            go_wp2
            go_roundg (k + 2 - (k + 1))
            case measure => omega
            case rel => exact ⟨k + 1, 0, es.set (i + k) c, by omega, by omega, rfl, by go_num, rfl, fun _ => rfl, Lib.hid ⟨Or.inr ⟨rfl, HN.out⟩, HP.out⟩⟩
          · obtain rfl : c = 0 := by omega
            have HE := Lib.hid (show TimesR (digs x) (digs y) es (i + 1) by
              rcases HS.out.1 with ⟨h1, h2⟩ | ⟨h1, h2⟩
              · obtain rfl : k = l2 := by omega
                have := timesS_end (a := digs x) (b := digs y) (ds := es) (i := i) (c := 0) (by rw [HL.out.2, HS.out.2.len]; omega) (by rw [HL.out.2]; exact h2)
                rw [HL.out.2] at this
                rw [set_same (h2.2.2.2 _ (by rw [HL.out.2]; exact Nat.le_refl _)) (by rw [HS.out.2.len]; omega)] at this
                exact this
              · exact h2)
            go_wp2
            go_roundg (l1 - (i + 1))
            case measure => omega
            case rel => exact ⟨i + 1, es, by omega, rfl, by go_num, Lib.hid ⟨HE.out, HS.out.2⟩⟩
    · obtain rfl : i = l1 := by omega
      have hval : dval ds = x * y := by
        have := timesR_end (by rw [HL.out.1]; exact HR.out.1)
        rw [dval_digs, dval_digs] at this; exact this
      have HCO := Lib.hid (own_capok HR.out.2.own)
      have HNW := Lib.hid (show NewA w.heap.size (some ⟨g, 0, none⟩) from ⟨g, 0, rfl, by have := HR.out.2.gw; omega⟩)
      have HD := Lib.hid (And.intro HR.out.2.len (And.intro HR.out.1.1 (And.intro hval (And.intro HR.out.2.rd (show Below w.heap.size w wr by have := HR.out.2.bel; rw [HR.out.2.gw] at this; exact this)))))
      clear hval
      go_wp2
      go_loop [5] (fun v5 => ∃ n : Nat, n ≤ L ∧ v5 = .slice (some ⟨g, 0, none⟩) n L ∧ Hid (TrimR ds n)) (fun v5 => match v5 with | .slice _ n _ => n | _ => 0)
      case atStart => exact ⟨L, Nat.le_refl _, rfl, Lib.hid (by have := trimR_start ds; rw [HD.out.1] at this; exact this)⟩
      case round =>
        obtain ⟨n, hn, rfl, HT⟩ := hrel
        cases n with
        | zero =>
          go_wp2
          go_ret
          exact ⟨_, L, 0, rfl, isBig_trim HD.out.2.2.2.1 HD.out.2.1 HD.out.1 HT.out (Or.inl rfl) HD.out.2.2.1 ⟨_, _, rfl⟩, HCO.out.less (Nat.zero_le _), HD.out.2.2.2.2, HNW.out⟩
        | succ n =>
          obtain ⟨b, off, e0, e1⟩ := HD.out.2.2.2.1.at (show n < L by omega)
          simp only [Option.some.injEq, Addr.mk.injEq] at e0
          obtain ⟨rfl, rfl, _⟩ := e0
          rw [dI_at, Nat.zero_add] at e1
          obtain ⟨d, hd⟩ : ∃ d, ds.getD n 0 = d := ⟨_, rfl⟩
          rw [hd] at e1
          have HDD := Lib.hid hd
          clear hd
          have hn0 : (0:Int) ≤ (n:Int) := by omega
          have hnw : IntKind.i64.wrap (n:Int) = (n:Int) := IntWalk.i64_in _ (by omega)
          have hn1 : (0:Int) < (n:Int) + 1 := by omega
          have hnc : (n:Int) ≤ (L:Int) := by omega
          have hnc2 : n ≤ L := by omega
          by_cases hd0 : d = 0
          · subst hd0
            go_wp2
            go_round
            case rel => exact ⟨n, by omega, rfl, Lib.hid (trimR_next HT.out HDD.out)⟩
            case measure => simp
          · have hdn : ((d : Int) == 0) = false := by rw [beq_eq_false_iff_ne]; omega
            have hdn2 : ¬ (d : Int) = 0 := by omega
            have hdn3 : (d == 0) = false := by rw [beq_eq_false_iff_ne]; exact hd0
            go_wp2
            go_ret
            exact ⟨_, L, n + 1, rfl, isBig_trim HD.out.2.2.2.1 HD.out.2.1 HD.out.1 HT.out (Or.inr (by rw [Nat.add_sub_cancel, HDD.out]; exact hd0)) HD.out.2.2.1 ⟨_, _, rfl⟩, HCO.out.less hn, HD.out.2.2.2.2, HNW.out⟩
end B30
end Go.Proofs.YtaneocedklnajaaGreat
/- The reference's numbers of any size: division bit by bit. No condition but bounds. -/
namespace Go.Proofs.YtaneocedklnajaaGreat
open Go.RowKit
set_option linter.unusedVariables false
namespace B30

theorem src_facts {w : World} {b off m : Nat} {zs : List Int} (h : IsInts w (some ⟨b, off, none⟩) m zs) : (zs.map (Value.int .i64)).length = m * 1 ∧ (∀ j u, (zs.map (Value.int .i64))[j]? = some u → w.cell? ((⟨b, off, none⟩ : Addr).add j) = some u) ∧ ∀ u ∈ zs.map (Value.int .i64), u.oneCell' = true := by
  refine ⟨by simp [h.1], fun j u hu => ?_, fun u hu => ?_⟩
  · rw [List.getElem?_map] at hu
    obtain ⟨z, hz, rfl⟩ := Option.map_eq_some_iff.1 hu
    have hj : j < m := by rw [← h.1]; exact (List.getElem?_eq_some_iff.1 hz).1
    obtain ⟨b', off', e, c⟩ := h.2 j hj
    simp only [Option.some.injEq, Addr.mk.injEq] at e
    obtain ⟨rfl, rfl, _⟩ := e
    have : (⟨b, off, none⟩ : Addr).add j = ⟨b, off + j, none⟩ := by unfold Addr.add; split <;> simp_all
    rw [this, c]
    simp [List.getD, hz]
  · obtain ⟨z, _, rfl⟩ := List.mem_map.1 hu
    rfl
/-- A call's answer: two numbers. -/
def RetBig2 (w : World) (q r : Nat) (e : Ending) (w' : World) : Prop := ∃ a1 c1 l1 a2 c2 l2, e = .returned (.tuple #[.slice a1 l1 c1, .slice a2 l2 c2]) ∧ IsBig w' a1 l1 q ∧ IsBig w' a2 l2 r ∧ (CapOk l1 c1 ∧ CapOk l2 c2) ∧ Below w.heap.size w w' ∧ (NewA w.heap.size a1 ∧ NewA w.heap.size a2)
theorem isBig_of_grow {w wr : World} {a : Option Addr} {l c n : Nat} {zs : List Int} (h : GrowAt w wr 2 (.slice a l c) l (zs.map (Value.int .i64))) (hs : Sm a) (hz : zs = dI (digs n)) : IsBig wr a l n := by
  subst hz
  have hl : (dI (digs n)).length = l := by simpa using h.1.1
  rw [dI_len] at hl
  exact ⟨hs, hl, IsInts.of_own h.1⟩
theorem isBig_zero (w : World) (b off : Nat) : IsBig w (some ⟨b, off, none⟩) 0 0 := ⟨⟨_, _, rfl⟩, by rw [digs_zero]; rfl, by rw [digs_zero]; exact ⟨rfl, fun j hj => by omega⟩⟩
theorem own_not_nil {w : World} {B T sz : Nat} {v : Value} {n : Nat} {xs : List Value} (h : w.ownsRow B T sz v n xs) (hv : v ≠ .slice none 0 0) : ∃ g c, v = .slice (some ⟨g, 0, none⟩) n c := by
  rcases h.2 with ⟨e, _⟩ | ⟨g, c, cur, e, _⟩
  · exact absurd e hv
  · exact ⟨g, c, e⟩
/-- The state of the division: what is in memory while k bits are still to come. -/
structure SpI (w : World) (x y k : Nat) (a1 a2 at' ao aq ar : Option Addr) (l1 l2 lt lo lq lr : Nat) (wr : World) : Prop where
  bx : IsBig wr a1 l1 x
  bY : IsBig wr a2 l2 y
  bt : IsBig wr at' lt 2
  bo : IsBig wr ao lo 1
  bq : IsBig wr aq lq (x / 2 ^ k / y)
  br : IsBig wr ar lr (x / 2 ^ k % y)
  bel : Below w.heap.size w wr
theorem SpI.all {w wr wx : World} {x y k : Nat} {a1 a2 at' ao aq ar : Option Addr} {l1 l2 lt lo lq lr : Nat} (h : SpI w x y k a1 a2 at' ao aq ar l1 l2 lt lo lq lr wr) (hb : Below wr.heap.size wr wx) : SpI w x y k a1 a2 at' ao aq ar l1 l2 lt lo lq lr wx :=
  ⟨h.bx.below hb, h.bY.below hb, h.bt.below hb, h.bo.below hb, h.bq.below hb, h.br.below hb, bthen h.bel hb⟩
theorem IsBig.le {w : World} {a : Option Addr} {l n m : Nat} (h : IsBig w a l n) {k : Nat} (hm : (digs m).length = k) (hn : n ≤ m) : l ≤ k := by rw [← h.len, ← hm]; exact digs_len_mono hn
theorem len_dbl {w : World} {a : Option Addr} {l n m k : Nat} (h : IsBig w a l n) (hm : (digs m).length = k) (hn : n ≤ m * 2) : l ≤ k + 1 := by
  rw [← h.len]
  refine digs_len_le (Nat.lt_of_le_of_lt hn ?_)
  have h1 := digs_lt m
  rw [hm] at h1
  have h2 : bse ^ (k + 1) = bse ^ k * bse := Nat.pow_succ ..
  have h3 : bse ^ k * 2 ≤ bse ^ k * bse := Nat.mul_le_mul_left _ (by decide)
  omega
theorem ints_drop {w : World} {b off l n : Nat} {zs : List Int} (h : IsInts w (some ⟨b, off, none⟩) l zs) (hn : n ≤ l) : IsInts w (some ⟨b, off + n, none⟩) (l - n) (zs.drop n) :=
  ⟨by rw [List.length_drop, h.1], fun j hj => by
    obtain ⟨b', off', e, c⟩ := h.2 (n + j) (by omega)
    simp only [Option.some.injEq, Addr.mk.injEq] at e
    obtain ⟨rfl, rfl, _⟩ := e
    refine ⟨b, off + n, rfl, ?_⟩
    rw [Nat.add_assoc, c]
    simp [List.getD, List.getElem?_drop]⟩
theorem dI_drop (ds : List Nat) (n : Nat) : dI (ds.drop n) = (dI ds).drop n := by simp [dI, List.map_drop]
set_option maxRecDepth 20000 in
set_option maxHeartbeats 3200000 in
theorem bigSplit_less (x y : Nat) (a1 a2 : Option Addr) (l1 l2 c1 c2 : Nat) (w : World) (hb1 : l1 ≤ 500000) (hb2 : l2 ≤ 500000) (h1 : IsBig w a1 l1 x) (h2 : IsBig w a2 l2 y) (hlt : l1 < l2) :
    Calls Tryz.prog 134 #[.slice a1 l1 c1, .slice a2 l2 c2] w (RetBig2 w (x / y) (x % y)) := by
  obtain ⟨i0, hi, hz0, hz1, hz2⟩ := info_parts Tryz.infoI
  obtain ⟨b, off, rfl⟩ := h1.sm
  have hv := split_less (x := x) (y := y) (by rw [h1.len, h2.len]; exact hlt)
  rw [hv.1, hv.2]
  have hli : (l1 : Int) < (l2 : Int) := by omega
  have hA : Below w.heap.size w (w.alloc (.cells #[] 2)) := (Below.refl _ _).alloc (Nat.le_refl _) _
  have hA2 : Below w.heap.size w ((w.alloc (.cells #[] 2)).alloc (.cells #[] 2)) := hA.alloc hA.size _
  have hG := GrowAt.start (w.alloc (.cells #[] 2)) 2
  rw [alloc_size] at hG
  obtain ⟨s1, s2, s3⟩ := src_facts (h1.rd.below hA2)
  have H0 := Lib.hid (And.intro s1 (And.intro s2 (And.intro s3 (And.intro hG (And.intro hA hA2)))))
  have HLen := Lib.hid h1.len
  clear hv h1 h2 s1 s2 s3 hG hA hA2
  go_enter Tryz.func134, Tryz.ntmps134
  go_wp2_with (at_builtin; refine wpList_append_own _ rfl (.tmp 18) (.tmp 19) 53 rfl (w.heap.size + 1) 2 i0 (.int .i64 0) 1 8 Tryz.underlying53 hi hz0 hz1 hz2 rfl (by decide) _ 0 [] rfl (by have := H0.out.2.2.2.1.1; rw [alloc_size] at this; exact this) ⟨b, off, none⟩ l1 c1 ((dI (digs x)).map (Value.int .i64)) rfl H0.out.1 H0.out.2.1 H0.out.2.2.1 ?c1 ?c2 ?c3 ?_)
  case c1 => unfold maxLen; omega
  case c2 => omega
  case c3 => simp only [alloc_size]; omega
  intro v' w1 hown hgrow hnil
  obtain ⟨g, cg, rfl⟩ := own_not_nil hown hnil
  have hb1 : Below w.heap.size w w1 := H0.out.2.2.2.2.2.grown hgrow (by simp only [alloc_size]; omega) (fun k hk => by simp only [Value.ownBlock, Option.some.injEq] at hk; omega)
  have HCO := Lib.hid (own_capok hown)
  have HNW := Lib.hid ((own_new hown ⟨_, _, rfl⟩).le (Nat.le_succ _))
  have H1 := Lib.hid (And.intro (show IsBig w1 (some ⟨g, 0, none⟩) l1 x from ⟨⟨_, _, rfl⟩, HLen.out, IsInts.of_own hown⟩) hb1)
  clear hown hgrow hnil hb1
  go_wp2
  go_ret2
  exact ⟨_, _, _, _, _, _, rfl, isBig_zero _ _ _, H1.out.1, ⟨⟨Nat.le_refl _, by omega⟩, HCO.out⟩, H1.out.2, ⟨⟨_, _, rfl, Nat.le_refl _⟩, HNW.out⟩⟩
set_option maxRecDepth 20000 in
set_option maxHeartbeats 6400000 in
theorem bigSplit_ge (x y : Nat) (a1 a2 : Option Addr) (l1 l2 c1 c2 : Nat) (w : World) (hb1 : l1 ≤ 500000) (hb2 : l2 ≤ 500000) (hy : y ≠ 0) (h1 : IsBig w a1 l1 x) (h2 : IsBig w a2 l2 y) (hge : l2 ≤ l1) (hcap : l1 ≤ c1) (hcm : c1 ≤ 9223372036854775807) :
    Calls Tryz.prog 134 #[.slice a1 l1 c1, .slice a2 l2 c2] w (RetBig2 w (x / y) (x % y)) := by
  obtain ⟨i0, hi, hz0, hz1, hz2⟩ := info_parts Tryz.infoI
  obtain ⟨b, off, rfl⟩ := h1.sm
  have hl2 : 0 < l2 := by rw [← h2.len]; exact digs_len_pos (by omega)
  have hli : ¬ (l1 : Int) < (l2 : Int) := by omega
  obtain ⟨left, hleft⟩ : ∃ left, l1 - l2 + 1 = left := ⟨_, rfl⟩
  have hlI : (l1 : Int) - (l2 : Int) + 1 = (left : Int) := by omega
  have hll : left ≤ l1 := by omega
  have HX := Lib.hid (And.intro h1 h2)
  have HL := Lib.hid (And.intro h1.len h2.len)
  have hfirst := split_first (x := x) (y := y) (by rw [h1.len, h2.len]; exact hge) hy
  rw [h1.len, h2.len, hleft] at hfirst
  have HF := Lib.hid hfirst
  have hli0 : (0 : Int) ≤ (left : Int) := by omega
  have hli1 : (left : Int) ≤ (l1 : Int) := by omega
  have hli2 : (left : Int) ≤ (c1 : Int) := by omega
  have hsrc : ∃ off', ((c1 = left ∧ off' = off) ∨ (¬ c1 = left ∧ off' = off + left)) ∧ IsInts w (some ⟨b, off', none⟩) (l1 - left) (dI ((digs x).drop left)) := by
    by_cases hcl : c1 = left
    · refine ⟨off, Or.inl ⟨hcl, rfl⟩, ?_⟩
      have : l1 = left := by omega
      rw [List.drop_of_length_le (by rw [h1.len]; omega), show l1 - left = 0 by omega]
      exact ⟨rfl, fun j hj => by omega⟩
    · refine ⟨off + left, Or.inr ⟨hcl, rfl⟩, ?_⟩
      rw [dI_drop]; exact ints_drop h1.rd hll
  obtain ⟨off', hoff, hi0⟩ := hsrc
  have hA : Below w.heap.size w (w.alloc (.cells #[] 2)) := (Below.refl _ _).alloc (Nat.le_refl _) _
  have hA2 : Below w.heap.size w ((w.alloc (.cells #[] 2)).alloc (.cells #[] 2)) := hA.alloc hA.size _
  have hG := GrowAt.start (w.alloc (.cells #[] 2)) 2
  rw [alloc_size] at hG
  obtain ⟨s1, s2, s3⟩ := src_facts (hi0.below hA2)
  have H0 := Lib.hid (And.intro s1 (And.intro s2 (And.intro s3 (And.intro hG (And.intro hA2 (isBig_zero (w.alloc (.cells #[] 2)) w.heap.size 0))))))
  have HDR := Lib.hid (show (digs x).drop left = digs (x / 2 ^ (left * 30)) by rw [digs_drop, pow_bse, Nat.mul_comm])
  have HY := Lib.hid hy
  clear h1 h2 hfirst hi0 hA hA2 hG s1 s2 s3 hy
  rcases hoff with ⟨hcl, rfl⟩ | ⟨hcl, rfl⟩
  · obtain rfl : left = c1 := hcl.symm
    obtain rfl : left = l1 := by omega
    rw [Nat.sub_self] at H0
    have hz : x / 2 ^ (left * 30) = 0 := by
      have := HDR.out
      rw [List.drop_of_length_le (by rw [HL.out.1]; exact Nat.le_refl _)] at this
      exact digs_nil_iff.1 this.symm
    have H1 := Lib.hid (And.intro (isBig_zero ((w.alloc (.cells #[] 2)).alloc (.cells #[] 2)) w.heap.size 0) (And.intro (show IsBig ((w.alloc (.cells #[] 2)).alloc (.cells #[] 2)) (some ⟨w.heap.size + 1, 0, none⟩) 0 (x / 2 ^ (left * 30)) by rw [hz]; exact isBig_zero _ _ _) H0.out.2.2.2.2.1))
    have HCO := Lib.hid (show CapOk 0 0 from ⟨Nat.le_refl _, by omega⟩)
    have HNW := Lib.hid (show NewA w.heap.size (some ⟨w.heap.size + 1, 0, none⟩) from ⟨_, _, rfl, Nat.le_succ _⟩)
    clear hz H0
    go_enter Tryz.func134, Tryz.ntmps134
    go_wp2_with fail
    refine (bigOf_any 2 _ (by omega)).mono ?_
    rintro e w2 ⟨at', ct, lt, rfl, h2, capw2, hb2, neww2⟩
    have HCPw2 := Lib.hid capw2
    have HNAw2 := Lib.hid neww2
    clear capw2 neww2
    have H2 := Lib.hid (And.intro h2 hb2)
    clear h2 hb2
    go_wp2_with fail
    refine (bigOf_any 1 _ (by omega)).mono ?_
    rintro e w3 ⟨ao, co, lo, rfl, h3, capw3, hb3, neww3⟩
    have HCPw3 := Lib.hid capw3
    have HNAw3 := Lib.hid neww3
    clear capw3 neww3
    have hb23 := bthen H2.out.2 hb3
    have hbw := bthen H1.out.2.2 hb23
    have H3 := Lib.hid (show SpI w x y (left * 30) (some ⟨b, off', none⟩) a2 at' ao (some ⟨w.heap.size, 0, none⟩) (some ⟨w.heap.size + 1, 0, none⟩) left l2 lt lo 0 0 w3 from
      ⟨HX.out.1.below hbw, HX.out.2.below hbw, H2.out.1.below hb3, h3, by rw [Nat.div_eq_of_lt HF.out]; exact H1.out.1.below hb23, by rw [Nat.mod_eq_of_lt HF.out]; exact H1.out.2.1.below hb23, hbw⟩)
    clear h3 hb3 hb23 hbw H1 H2
    obtain ⟨rfl, rfl⟩ : lt = 1 ∧ lo = 1 := (⟨by rw [← H3.out.bt.len, digs_two]; rfl, by rw [← H3.out.bo.len, digs_one]; rfl⟩)
    have h30 : (left : Int) * 30 - 1 = ((left * 30 : Nat) : Int) - 1 := by omega
    obtain ⟨K, hK⟩ : ∃ K, left * 30 = K := ⟨_, rfl⟩
    have hKb : K ≤ 15000000 := by omega
    rw [hK] at H3 h30 HF HDR
    have HKK := Lib.hid hK
    clear hK
    go_wp2
    go_loopg [11, 6, 8] K (fun gh v11 v6 v8 wr => ∃ (k : Nat) (aq ar : Option Addr) (cq cr lq lr : Nat), k ≤ K ∧ gh = k ∧ v11 = .int .i64 ((k : Int) - 1) ∧ v6 = .slice aq lq cq ∧ v8 = .slice ar lr cr ∧ Hid (SpI w x y k (some ⟨b, off', none⟩) a2 at' ao aq ar left l2 1 1 lq lr wr ∧ (CapOk lq cq ∧ CapOk lr cr) ∧ NewA w.heap.size aq ∧ NewA w.heap.size ar))
    case atStart => exact ⟨K, _, _, _, _, _, _, Nat.le_refl _, rfl, by rw [← h30], rfl, rfl, Lib.hid ⟨H3.out, ⟨⟨Nat.le_refl _, by omega⟩, HCO.out⟩, ⟨_, _, rfl, Nat.le_refl _⟩, HNW.out⟩⟩
    case round =>
      clear H3
      obtain ⟨k, aq, ar, cq, cr, lq, lr, hk, hgk, rfl, rfl, rfl, HS0⟩ := hrel
      have HS := Lib.hid HS0.out.1
      have HGK := Lib.hid hgk
      clear hgk
      cases k with
      | zero =>
        have HE := Lib.hid (show x / 2 ^ 0 = x by simp)
        rw [show ((0 : Nat) : Int) - 1 = -1 from rfl]
        go_wp2
        go_ret2
        exact ⟨_, _, _, _, _, _, rfl, by have := HS.out.bq; rw [HE.out] at this; exact this, by have := HS.out.br; rw [HE.out] at this; exact this, HS0.out.2.1, HS.out.bel, HS0.out.2.2⟩
      | succ k =>
        rw [show ((k + 1 : Nat) : Int) - 1 = (k : Int) by omega]
        have hk0 : (0:Int) ≤ (k:Int) := by omega
        have hlq : lq ≤ left := HS.out.bq.le HL.out.1 (Nat.le_trans (Nat.div_le_self _ _) (Nat.div_le_self _ _))
        have hlr : lr ≤ l2 := HS.out.br.le HL.out.2 (Nat.le_of_lt (Nat.mod_lt _ (by have := HY.out; omega)))
        obtain ⟨b9, off9, e0, e1⟩ := HS.out.bx.at (show k / 30 < left by omega)
        simp only [Option.some.injEq, Addr.mk.injEq] at e0
        obtain ⟨rfl, rfl, _⟩ := e0
        have hbit := digs_bit x k
        obtain ⟨d, hd⟩ : ∃ d, (digs x).getD (k / 30) 0 = d := ⟨_, rfl⟩
        rw [hd] at e1 hbit
        have hdb := getD_lt x (k / 30)
        rw [hd] at hdb
        have HDd := Lib.hid hd
        clear hd
        have hX := half_bit x k
        obtain ⟨Y, hY⟩ : ∃ Y, x / 2 ^ (k + 1) = Y := ⟨_, rfl⟩
        obtain ⟨B, hB⟩ : ∃ B, x / 2 ^ k % 2 = B := ⟨_, rfl⟩
        rw [hY, hB] at hX
        rw [hB] at hbit
        have hB2 : B < 2 := by rw [← hB]; exact Nat.mod_lt _ (by omega)
        have HQ := Lib.hid (show IsBig wr aq lq (Y / y) by have := HS.out.bq; rw [hY] at this; exact this)
        have HR := Lib.hid (show IsBig wr ar lr (Y % y) by have := HS.out.br; rw [hY] at this; exact this)
        have hst := split_step Y y B (by have := HY.out; omega) hB2
        have hmod := Nat.mod_lt Y (show 0 < y by have := HY.out; omega)
        rw [← hX] at hst
        have HX2 := Lib.hid (And.intro hX (And.intro hst hmod))
        have HYx := Lib.hid (show Y ≤ x by rw [← hY]; exact Nat.div_le_self _ _)
        clear hX hst hY hB hmod
        have HBLw4 := Lib.hid HS.out.bel.size
        go_wp2_with fail
        refine (bigTimes_any (Y / y) 2 aq at' lq 1 cq ct wr (by omega) (by omega) HQ.out HS.out.bt).mono ?_
        rintro e w4 ⟨q1, qc1, ql1, rfl, hq1, capw4, hb4, neww4⟩
        have HCPw4 := Lib.hid capw4
        have HNAw4 := Lib.hid neww4
        clear capw4 neww4
        have hql1 := len_dbl hq1 HL.out.1 (by have := HYx.out; have := Nat.div_le_self Y y; omega : Y / y * 2 ≤ x * 2)
        have H4 := Lib.hid (And.intro hq1 (And.intro (HR.out.below hb4) (HS.out.all hb4)))
        clear hq1 hb4
        have HBLw5 := Lib.hid H4.out.2.2.bel.size
        go_wp2_with fail
        refine (bigTimes_any (Y % y) 2 ar at' lr 1 cr ct w4 (by omega) (by omega) H4.out.2.1 H4.out.2.2.bt).mono ?_
        rintro e w5 ⟨r1, rc1, rl1, rfl, hr1, capw5, hb5, neww5⟩
        have HCPw5 := Lib.hid capw5
        have HNAw5 := Lib.hid neww5
        clear capw5 neww5
        have hrl1 := len_dbl hr1 HL.out.2 (by have := HX2.out.2.2; omega : Y % y * 2 ≤ y * 2)
        have H5 := Lib.hid (And.intro (H4.out.1.below hb5) (And.intro hr1 (H4.out.2.2.all hb5)))
        clear hr1 hb5 H4 e1
        obtain ⟨b9, off9, e0, e1⟩ := H5.out.2.2.bx.at (show k / 30 < left by omega)
        simp only [Option.some.injEq, Addr.mk.injEq] at e0
        obtain ⟨rfl, rfl, _⟩ := e0
        rw [HDd.out] at e1
        have hs30 : k % 30 < 30 := Nat.mod_lt _ (by omega)
        have hmod := HX2.out.2.2
        rcases (show B = 0 ∨ B = 1 by omega) with rfl | rfl
        · by_cases hge : y ≤ Y % y * 2
          · have hbv : bits .and .i64 ((d : Int) / 2 ^ (k % 30)) 1 = 0 := by
              have h1 := and_i64 (d / 2 ^ (k % 30)) 1 (Nat.lt_of_le_of_lt (Nat.div_le_self _ _) (by omega)) (by omega)
              rw [Nat.and_one_is_mod, hbit] at h1
              rw [show ((d / 2 ^ (k % 30) : Nat) : Int) = (d : Int) / 2 ^ (k % 30) by simp] at h1
              exact h1
            clear hbit
            have HVB := Lib.hid hge
            go_wp2_with fail
            have HC := Lib.hid (bigCmp_any (Y % y * 2) y r1 a2 rl1 l2 rc1 c2 w5 (by omega) (by omega) H5.out.2.1 H5.out.2.2.bY)
            obtain ⟨z, hz⟩ : ∃ z, cmpN (Y % y * 2) y = z := ⟨_, rfl⟩
            have hz0 : (0:Int) ≤ z := by rw [← hz]; unfold cmpN; rw [if_neg (by omega)]; split <;> omega
            rw [hz] at HC
            clear hz
            refine HC.out.mono ?_
            rintro e w7 ⟨rfl, hb7⟩
            have H7 := Lib.hid (And.intro (H5.out.1.below hb7) (And.intro (H5.out.2.1.below hb7) (H5.out.2.2.all hb7)))
            clear hb7 H5 HC
            go_wp2_with fail
            have HBLw8 := Lib.hid H7.out.2.2.bel.size
            refine (bigMinus_any (Y % y * 2) y r1 a2 rl1 l2 rc1 c2 w7 (by omega) (by omega) H7.out.2.1 H7.out.2.2.bY).mono ?_
            rintro e w8 ⟨r3, rc3, rl3, rfl, hr3, capw8, hb8, neww8⟩
            have HCPw8 := Lib.hid capw8
            have HNAw8 := Lib.hid neww8
            clear capw8 neww8
            have H8 := Lib.hid (And.intro (H7.out.1.below hb8) (And.intro hr3 (H7.out.2.2.all hb8)))
            clear hr3 hb8 H7
            go_wp2_with fail
            have HBLw9 := Lib.hid H8.out.2.2.bel.size
            refine (bigPlus_any (Y / y * 2) 1 q1 ao ql1 1 qc1 co w8 (by omega) (by omega) H8.out.1 H8.out.2.2.bo).mono ?_
            rintro e w9 ⟨q2, qc2, ql2, rfl, hq2, capw9, hb9, neww9⟩
            have HCPw9 := Lib.hid capw9
            have HNAw9 := Lib.hid neww9
            clear capw9 neww9
            have H9 := Lib.hid (And.intro hq2 (And.intro (H8.out.2.1.below hb9) (H8.out.2.2.all hb9)))
            clear hq2 hb9 H8
            have HF1 := Lib.hid (show x / 2 ^ k / y = (Y / y * 2 + 1) by have := HX2.out.2.1.1; rw [if_pos (show y ≤ 2 * (Y % y) + 0 by have := HVB.out; omega)] at this; omega)
            have HF2 := Lib.hid (show x / 2 ^ k % y = ((Y % y * 2) - y) by have := HX2.out.2.1.2; rw [if_pos (show y ≤ 2 * (Y % y) + 0 by have := HVB.out; omega)] at this; omega)
            go_wp2
            go_roundg k
            case measure => have := HGK.out; omega
            case rel => exact ⟨k, q2, r3, qc2, rc3, ql2, rl3, by omega, rfl, rfl, rfl, rfl, Lib.hid ⟨⟨H9.out.2.2.bx, H9.out.2.2.bY, H9.out.2.2.bt, H9.out.2.2.bo, by rw [HF1.out]; exact H9.out.1, by rw [HF2.out]; exact H9.out.2.1, H9.out.2.2.bel⟩, ⟨HCPw9.out, HCPw8.out⟩, HNAw9.out.le HBLw9.out, HNAw8.out.le HBLw8.out⟩⟩
          · have hbv : bits .and .i64 ((d : Int) / 2 ^ (k % 30)) 1 = 0 := by
              have h1 := and_i64 (d / 2 ^ (k % 30)) 1 (Nat.lt_of_le_of_lt (Nat.div_le_self _ _) (by omega)) (by omega)
              rw [Nat.and_one_is_mod, hbit] at h1
              rw [show ((d / 2 ^ (k % 30) : Nat) : Int) = (d : Int) / 2 ^ (k % 30) by simp] at h1
              exact h1
            clear hbit
            have HVB := Lib.hid hge
            go_wp2_with fail
            have HC := Lib.hid (bigCmp_any (Y % y * 2) y r1 a2 rl1 l2 rc1 c2 w5 (by omega) (by omega) H5.out.2.1 H5.out.2.2.bY)
            obtain ⟨z, hz⟩ : ∃ z, cmpN (Y % y * 2) y = z := ⟨_, rfl⟩
            have hz0 : z < (0:Int) := by rw [← hz]; unfold cmpN; rw [if_pos (by omega)]; omega
            rw [hz] at HC
            clear hz
            refine HC.out.mono ?_
            rintro e w7 ⟨rfl, hb7⟩
            have H7 := Lib.hid (And.intro (H5.out.1.below hb7) (And.intro (H5.out.2.1.below hb7) (H5.out.2.2.all hb7)))
            clear hb7 H5 HC
            go_wp2_with fail
            have HF1 := Lib.hid (show x / 2 ^ k / y = (Y / y * 2) by have := HX2.out.2.1.1; rw [if_neg (show ¬ y ≤ 2 * (Y % y) + 0 by have := HVB.out; omega)] at this; omega)
            have HF2 := Lib.hid (show x / 2 ^ k % y = (Y % y * 2) by have := HX2.out.2.1.2; rw [if_neg (show ¬ y ≤ 2 * (Y % y) + 0 by have := HVB.out; omega)] at this; omega)
            go_wp2
            go_roundg k
            case measure => have := HGK.out; omega
            case rel => exact ⟨k, q1, r1, qc1, rc1, ql1, rl1, by omega, rfl, rfl, rfl, rfl, Lib.hid ⟨⟨H7.out.2.2.bx, H7.out.2.2.bY, H7.out.2.2.bt, H7.out.2.2.bo, by rw [HF1.out]; exact H7.out.1, by rw [HF2.out]; exact H7.out.2.1, H7.out.2.2.bel⟩, ⟨HCPw4.out, HCPw5.out⟩, HNAw4.out.le HBLw4.out, HNAw5.out.le HBLw5.out⟩⟩
        · by_cases hge : y ≤ Y % y * 2 + 1
          · have hbv : bits .and .i64 ((d : Int) / 2 ^ (k % 30)) 1 = 1 := by
              have h1 := and_i64 (d / 2 ^ (k % 30)) 1 (Nat.lt_of_le_of_lt (Nat.div_le_self _ _) (by omega)) (by omega)
              rw [Nat.and_one_is_mod, hbit] at h1
              rw [show ((d / 2 ^ (k % 30) : Nat) : Int) = (d : Int) / 2 ^ (k % 30) by simp] at h1
              exact h1
            clear hbit
            have HVB := Lib.hid hge
            go_wp2_with fail
            have HBLw6 := Lib.hid H5.out.2.2.bel.size
            refine (bigPlus_any (Y % y * 2) 1 r1 ao rl1 1 rc1 co w5 (by omega) (by omega) H5.out.2.1 H5.out.2.2.bo).mono ?_
            rintro e w6 ⟨r2, rc2, rl2, rfl, hr2, capw6, hb6, neww6⟩
            have HCPw6 := Lib.hid capw6
            have HNAw6 := Lib.hid neww6
            clear capw6 neww6
            have H6 := Lib.hid (And.intro (H5.out.1.below hb6) (And.intro hr2 (H5.out.2.2.all hb6)))
            have hrl2 := len_dbl hr2 HL.out.2 (by omega : Y % y * 2 + 1 ≤ y * 2)
            clear hr2 hb6 H5
            go_wp2_with fail
            have HC := Lib.hid (bigCmp_any (Y % y * 2 + 1) y r2 a2 rl2 l2 rc2 c2 w6 (by omega) (by omega) H6.out.2.1 H6.out.2.2.bY)
            obtain ⟨z, hz⟩ : ∃ z, cmpN (Y % y * 2 + 1) y = z := ⟨_, rfl⟩
            have hz0 : (0:Int) ≤ z := by rw [← hz]; unfold cmpN; rw [if_neg (by omega)]; split <;> omega
            rw [hz] at HC
            clear hz
            refine HC.out.mono ?_
            rintro e w7 ⟨rfl, hb7⟩
            have H7 := Lib.hid (And.intro (H6.out.1.below hb7) (And.intro (H6.out.2.1.below hb7) (H6.out.2.2.all hb7)))
            clear hb7 H6 HC
            go_wp2_with fail
            have HBLw8 := Lib.hid H7.out.2.2.bel.size
            refine (bigMinus_any (Y % y * 2 + 1) y r2 a2 rl2 l2 rc2 c2 w7 (by omega) (by omega) H7.out.2.1 H7.out.2.2.bY).mono ?_
            rintro e w8 ⟨r3, rc3, rl3, rfl, hr3, capw8, hb8, neww8⟩
            have HCPw8 := Lib.hid capw8
            have HNAw8 := Lib.hid neww8
            clear capw8 neww8
            have H8 := Lib.hid (And.intro (H7.out.1.below hb8) (And.intro hr3 (H7.out.2.2.all hb8)))
            clear hr3 hb8 H7
            go_wp2_with fail
            have HBLw9 := Lib.hid H8.out.2.2.bel.size
            refine (bigPlus_any (Y / y * 2) 1 q1 ao ql1 1 qc1 co w8 (by omega) (by omega) H8.out.1 H8.out.2.2.bo).mono ?_
            rintro e w9 ⟨q2, qc2, ql2, rfl, hq2, capw9, hb9, neww9⟩
            have HCPw9 := Lib.hid capw9
            have HNAw9 := Lib.hid neww9
            clear capw9 neww9
            have H9 := Lib.hid (And.intro hq2 (And.intro (H8.out.2.1.below hb9) (H8.out.2.2.all hb9)))
            clear hq2 hb9 H8
            have HF1 := Lib.hid (show x / 2 ^ k / y = (Y / y * 2 + 1) by have := HX2.out.2.1.1; rw [if_pos (show y ≤ 2 * (Y % y) + 1 by have := HVB.out; omega)] at this; omega)
            have HF2 := Lib.hid (show x / 2 ^ k % y = ((Y % y * 2 + 1) - y) by have := HX2.out.2.1.2; rw [if_pos (show y ≤ 2 * (Y % y) + 1 by have := HVB.out; omega)] at this; omega)
            go_wp2
            go_roundg k
            case measure => have := HGK.out; omega
            case rel => exact ⟨k, q2, r3, qc2, rc3, ql2, rl3, by omega, rfl, rfl, rfl, rfl, Lib.hid ⟨⟨H9.out.2.2.bx, H9.out.2.2.bY, H9.out.2.2.bt, H9.out.2.2.bo, by rw [HF1.out]; exact H9.out.1, by rw [HF2.out]; exact H9.out.2.1, H9.out.2.2.bel⟩, ⟨HCPw9.out, HCPw8.out⟩, HNAw9.out.le HBLw9.out, HNAw8.out.le HBLw8.out⟩⟩
          · have hbv : bits .and .i64 ((d : Int) / 2 ^ (k % 30)) 1 = 1 := by
              have h1 := and_i64 (d / 2 ^ (k % 30)) 1 (Nat.lt_of_le_of_lt (Nat.div_le_self _ _) (by omega)) (by omega)
              rw [Nat.and_one_is_mod, hbit] at h1
              rw [show ((d / 2 ^ (k % 30) : Nat) : Int) = (d : Int) / 2 ^ (k % 30) by simp] at h1
              exact h1
            clear hbit
            have HVB := Lib.hid hge
            go_wp2_with fail
            have HBLw6 := Lib.hid H5.out.2.2.bel.size
            refine (bigPlus_any (Y % y * 2) 1 r1 ao rl1 1 rc1 co w5 (by omega) (by omega) H5.out.2.1 H5.out.2.2.bo).mono ?_
            rintro e w6 ⟨r2, rc2, rl2, rfl, hr2, capw6, hb6, neww6⟩
            have HCPw6 := Lib.hid capw6
            have HNAw6 := Lib.hid neww6
            clear capw6 neww6
            have H6 := Lib.hid (And.intro (H5.out.1.below hb6) (And.intro hr2 (H5.out.2.2.all hb6)))
            have hrl2 := len_dbl hr2 HL.out.2 (by omega : Y % y * 2 + 1 ≤ y * 2)
            clear hr2 hb6 H5
            go_wp2_with fail
            have HC := Lib.hid (bigCmp_any (Y % y * 2 + 1) y r2 a2 rl2 l2 rc2 c2 w6 (by omega) (by omega) H6.out.2.1 H6.out.2.2.bY)
            obtain ⟨z, hz⟩ : ∃ z, cmpN (Y % y * 2 + 1) y = z := ⟨_, rfl⟩
            have hz0 : z < (0:Int) := by rw [← hz]; unfold cmpN; rw [if_pos (by omega)]; omega
            rw [hz] at HC
            clear hz
            refine HC.out.mono ?_
            rintro e w7 ⟨rfl, hb7⟩
            have H7 := Lib.hid (And.intro (H6.out.1.below hb7) (And.intro (H6.out.2.1.below hb7) (H6.out.2.2.all hb7)))
            clear hb7 H6 HC
            go_wp2_with fail
            have HF1 := Lib.hid (show x / 2 ^ k / y = (Y / y * 2) by have := HX2.out.2.1.1; rw [if_neg (show ¬ y ≤ 2 * (Y % y) + 1 by have := HVB.out; omega)] at this; omega)
            have HF2 := Lib.hid (show x / 2 ^ k % y = (Y % y * 2 + 1) by have := HX2.out.2.1.2; rw [if_neg (show ¬ y ≤ 2 * (Y % y) + 1 by have := HVB.out; omega)] at this; omega)
            go_wp2
            go_roundg k
            case measure => have := HGK.out; omega
            case rel => exact ⟨k, q1, r2, qc1, rc2, ql1, rl2, by omega, rfl, rfl, rfl, rfl, Lib.hid ⟨⟨H7.out.2.2.bx, H7.out.2.2.bY, H7.out.2.2.bt, H7.out.2.2.bo, by rw [HF1.out]; exact H7.out.1, by rw [HF2.out]; exact H7.out.2.1, H7.out.2.2.bel⟩, ⟨HCPw4.out, HCPw6.out⟩, HNAw4.out.le HBLw4.out, HNAw6.out.le HBLw6.out⟩⟩
  · have hcl2 : ¬ left = c1 := fun e => hcl e.symm
    go_enter Tryz.func134, Tryz.ntmps134
    go_wp2_with (at_builtin; refine wpList_append_own _ rfl (.tmp 28) (.tmp 31) 53 rfl (w.heap.size + 1) 2 i0 (.int .i64 0) 1 8 Tryz.underlying53 hi hz0 hz1 hz2 rfl (by decide) _ 0 [] rfl (by have := H0.out.2.2.2.1.1; rw [alloc_size] at this; exact this) ⟨b, off + left, none⟩ (l1 - left) (c1 - left) ((dI ((digs x).drop left)).map (Value.int .i64)) rfl H0.out.1 H0.out.2.1 H0.out.2.2.1 ?c1 ?c2 ?c3 ?_)
    case c1 => unfold maxLen; omega
    case c2 => omega
    try (case c3 => simp only [alloc_size]; omega)
    intro v' w1 hown hgrow hnil
    obtain ⟨g, cg, rfl⟩ := own_not_nil hown hnil
    have hb1 : Below w.heap.size w w1 := H0.out.2.2.2.2.1.grown hgrow (by simp only [alloc_size]; omega) (fun k hk => by simp only [Value.ownBlock, Option.some.injEq] at hk; omega)
    have HCO := Lib.hid (own_capok hown)
    have HNW := Lib.hid ((own_new hown ⟨_, _, rfl⟩).le (Nat.le_succ w.heap.size))
    have hq0 : IsBig w1 (some ⟨w.heap.size, 0, none⟩) 0 0 := isBig_zero _ _ _
    have hr0 : IsBig w1 (some ⟨g, 0, none⟩) (l1 - left) (x / 2 ^ (left * 30)) := ⟨⟨_, _, rfl⟩, by rw [← HDR.out, List.length_drop, HL.out.1], by rw [← HDR.out]; exact IsInts.of_own hown⟩
    have H1 := Lib.hid (And.intro hq0 (And.intro hr0 hb1))
    clear hown hgrow hnil hb1 hq0 hr0 H0
    go_wp2_with fail
    refine (bigOf_any 2 _ (by omega)).mono ?_
    rintro e w2 ⟨at', ct, lt, rfl, h2, capw2, hb2, neww2⟩
    have HCPw2 := Lib.hid capw2
    have HNAw2 := Lib.hid neww2
    clear capw2 neww2
    have H2 := Lib.hid (And.intro h2 hb2)
    clear h2 hb2
    go_wp2_with fail
    refine (bigOf_any 1 _ (by omega)).mono ?_
    rintro e w3 ⟨ao, co, lo, rfl, h3, capw3, hb3, neww3⟩
    have HCPw3 := Lib.hid capw3
    have HNAw3 := Lib.hid neww3
    clear capw3 neww3
    have hb23 := bthen H2.out.2 hb3
    have hbw := bthen H1.out.2.2 hb23
    have H3 := Lib.hid (show SpI w x y (left * 30) (some ⟨b, off, none⟩) a2 at' ao (some ⟨w.heap.size, 0, none⟩) (some ⟨g, 0, none⟩) l1 l2 lt lo 0 (l1 - left) w3 from
      ⟨HX.out.1.below hbw, HX.out.2.below hbw, H2.out.1.below hb3, h3, by rw [Nat.div_eq_of_lt HF.out]; exact H1.out.1.below hb23, by rw [Nat.mod_eq_of_lt HF.out]; exact H1.out.2.1.below hb23, hbw⟩)
    clear h3 hb3 hb23 hbw H1 H2
    obtain ⟨rfl, rfl⟩ : lt = 1 ∧ lo = 1 := (⟨by rw [← H3.out.bt.len, digs_two]; rfl, by rw [← H3.out.bo.len, digs_one]; rfl⟩)
    have h30 : (left : Int) * 30 - 1 = ((left * 30 : Nat) : Int) - 1 := by omega
    obtain ⟨K, hK⟩ : ∃ K, left * 30 = K := ⟨_, rfl⟩
    have hKb : K ≤ 15000000 := by omega
    rw [hK] at H3 h30 HF HDR
    have HKK := Lib.hid hK
    clear hK
    go_wp2
    go_loopg [11, 6, 8] K (fun gh v11 v6 v8 wr => ∃ (k : Nat) (aq ar : Option Addr) (cq cr lq lr : Nat), k ≤ K ∧ gh = k ∧ v11 = .int .i64 ((k : Int) - 1) ∧ v6 = .slice aq lq cq ∧ v8 = .slice ar lr cr ∧ Hid (SpI w x y k (some ⟨b, off, none⟩) a2 at' ao aq ar l1 l2 1 1 lq lr wr ∧ (CapOk lq cq ∧ CapOk lr cr) ∧ NewA w.heap.size aq ∧ NewA w.heap.size ar))
    case atStart => exact ⟨K, _, _, _, _, _, _, Nat.le_refl _, rfl, by rw [← h30], rfl, rfl, Lib.hid ⟨H3.out, ⟨⟨Nat.le_refl _, by omega⟩, HCO.out⟩, ⟨_, _, rfl, Nat.le_refl _⟩, HNW.out⟩⟩
    case round =>
      clear H3
      obtain ⟨k, aq, ar, cq, cr, lq, lr, hk, hgk, rfl, rfl, rfl, HS0⟩ := hrel
      have HS := Lib.hid HS0.out.1
      have HGK := Lib.hid hgk
      clear hgk
      cases k with
      | zero =>
        have HE := Lib.hid (show x / 2 ^ 0 = x by simp)
        rw [show ((0 : Nat) : Int) - 1 = -1 from rfl]
        go_wp2
        go_ret2
        exact ⟨_, _, _, _, _, _, rfl, by have := HS.out.bq; rw [HE.out] at this; exact this, by have := HS.out.br; rw [HE.out] at this; exact this, HS0.out.2.1, HS.out.bel, HS0.out.2.2⟩
      | succ k =>
        rw [show ((k + 1 : Nat) : Int) - 1 = (k : Int) by omega]
        have hk0 : (0:Int) ≤ (k:Int) := by omega
        have hlq : lq ≤ l1 := HS.out.bq.le HL.out.1 (Nat.le_trans (Nat.div_le_self _ _) (Nat.div_le_self _ _))
        have hlr : lr ≤ l2 := HS.out.br.le HL.out.2 (Nat.le_of_lt (Nat.mod_lt _ (by have := HY.out; omega)))
        obtain ⟨b', off', e0, e1⟩ := HS.out.bx.at (show k / 30 < l1 by omega)
        simp only [Option.some.injEq, Addr.mk.injEq] at e0
        obtain ⟨rfl, rfl, _⟩ := e0
        have hbit := digs_bit x k
        obtain ⟨d, hd⟩ : ∃ d, (digs x).getD (k / 30) 0 = d := ⟨_, rfl⟩
        rw [hd] at e1 hbit
        have hdb := getD_lt x (k / 30)
        rw [hd] at hdb
        have HDd := Lib.hid hd
        clear hd
        have hX := half_bit x k
        obtain ⟨Y, hY⟩ : ∃ Y, x / 2 ^ (k + 1) = Y := ⟨_, rfl⟩
        obtain ⟨B, hB⟩ : ∃ B, x / 2 ^ k % 2 = B := ⟨_, rfl⟩
        rw [hY, hB] at hX
        rw [hB] at hbit
        have hB2 : B < 2 := by rw [← hB]; exact Nat.mod_lt _ (by omega)
        have HQ := Lib.hid (show IsBig wr aq lq (Y / y) by have := HS.out.bq; rw [hY] at this; exact this)
        have HR := Lib.hid (show IsBig wr ar lr (Y % y) by have := HS.out.br; rw [hY] at this; exact this)
        have hst := split_step Y y B (by have := HY.out; omega) hB2
        have hmod := Nat.mod_lt Y (show 0 < y by have := HY.out; omega)
        rw [← hX] at hst
        have HX2 := Lib.hid (And.intro hX (And.intro hst hmod))
        have HYx := Lib.hid (show Y ≤ x by rw [← hY]; exact Nat.div_le_self _ _)
        clear hX hst hY hB hmod
        have HBLw4 := Lib.hid HS.out.bel.size
        go_wp2_with fail
        refine (bigTimes_any (Y / y) 2 aq at' lq 1 cq ct wr (by omega) (by omega) HQ.out HS.out.bt).mono ?_
        rintro e w4 ⟨q1, qc1, ql1, rfl, hq1, capw4, hb4, neww4⟩
        have HCPw4 := Lib.hid capw4
        have HNAw4 := Lib.hid neww4
        clear capw4 neww4
        have hql1 := len_dbl hq1 HL.out.1 (by have := HYx.out; have := Nat.div_le_self Y y; omega : Y / y * 2 ≤ x * 2)
        have H4 := Lib.hid (And.intro hq1 (And.intro (HR.out.below hb4) (HS.out.all hb4)))
        clear hq1 hb4
        have HBLw5 := Lib.hid H4.out.2.2.bel.size
        go_wp2_with fail
        refine (bigTimes_any (Y % y) 2 ar at' lr 1 cr ct w4 (by omega) (by omega) H4.out.2.1 H4.out.2.2.bt).mono ?_
        rintro e w5 ⟨r1, rc1, rl1, rfl, hr1, capw5, hb5, neww5⟩
        have HCPw5 := Lib.hid capw5
        have HNAw5 := Lib.hid neww5
        clear capw5 neww5
        have hrl1 := len_dbl hr1 HL.out.2 (by have := HX2.out.2.2; omega : Y % y * 2 ≤ y * 2)
        have H5 := Lib.hid (And.intro (H4.out.1.below hb5) (And.intro hr1 (H4.out.2.2.all hb5)))
        clear hr1 hb5 H4 e1
        obtain ⟨b', off', e0, e1⟩ := H5.out.2.2.bx.at (show k / 30 < l1 by omega)
        simp only [Option.some.injEq, Addr.mk.injEq] at e0
        obtain ⟨rfl, rfl, _⟩ := e0
        rw [HDd.out] at e1
        have hs30 : k % 30 < 30 := Nat.mod_lt _ (by omega)
        have hmod := HX2.out.2.2
        rcases (show B = 0 ∨ B = 1 by omega) with rfl | rfl
        · by_cases hge : y ≤ Y % y * 2
          · have hbv : bits .and .i64 ((d : Int) / 2 ^ (k % 30)) 1 = 0 := by
              have h1 := and_i64 (d / 2 ^ (k % 30)) 1 (Nat.lt_of_le_of_lt (Nat.div_le_self _ _) (by omega)) (by omega)
              rw [Nat.and_one_is_mod, hbit] at h1
              rw [show ((d / 2 ^ (k % 30) : Nat) : Int) = (d : Int) / 2 ^ (k % 30) by simp] at h1
              exact h1
            clear hbit
            have HVB := Lib.hid hge
            go_wp2_with fail
            have HC := Lib.hid (bigCmp_any (Y % y * 2) y r1 a2 rl1 l2 rc1 c2 w5 (by omega) (by omega) H5.out.2.1 H5.out.2.2.bY)
            obtain ⟨z, hz⟩ : ∃ z, cmpN (Y % y * 2) y = z := ⟨_, rfl⟩
            have hz0 : (0:Int) ≤ z := by rw [← hz]; unfold cmpN; rw [if_neg (by omega)]; split <;> omega
            rw [hz] at HC
            clear hz
            refine HC.out.mono ?_
            rintro e w7 ⟨rfl, hb7⟩
            have H7 := Lib.hid (And.intro (H5.out.1.below hb7) (And.intro (H5.out.2.1.below hb7) (H5.out.2.2.all hb7)))
            clear hb7 H5 HC
            go_wp2_with fail
            have HBLw8 := Lib.hid H7.out.2.2.bel.size
            refine (bigMinus_any (Y % y * 2) y r1 a2 rl1 l2 rc1 c2 w7 (by omega) (by omega) H7.out.2.1 H7.out.2.2.bY).mono ?_
            rintro e w8 ⟨r3, rc3, rl3, rfl, hr3, capw8, hb8, neww8⟩
            have HCPw8 := Lib.hid capw8
            have HNAw8 := Lib.hid neww8
            clear capw8 neww8
            have H8 := Lib.hid (And.intro (H7.out.1.below hb8) (And.intro hr3 (H7.out.2.2.all hb8)))
            clear hr3 hb8 H7
            go_wp2_with fail
            have HBLw9 := Lib.hid H8.out.2.2.bel.size
            refine (bigPlus_any (Y / y * 2) 1 q1 ao ql1 1 qc1 co w8 (by omega) (by omega) H8.out.1 H8.out.2.2.bo).mono ?_
            rintro e w9 ⟨q2, qc2, ql2, rfl, hq2, capw9, hb9, neww9⟩
            have HCPw9 := Lib.hid capw9
            have HNAw9 := Lib.hid neww9
            clear capw9 neww9
            have H9 := Lib.hid (And.intro hq2 (And.intro (H8.out.2.1.below hb9) (H8.out.2.2.all hb9)))
            clear hq2 hb9 H8
            have HF1 := Lib.hid (show x / 2 ^ k / y = (Y / y * 2 + 1) by have := HX2.out.2.1.1; rw [if_pos (show y ≤ 2 * (Y % y) + 0 by have := HVB.out; omega)] at this; omega)
            have HF2 := Lib.hid (show x / 2 ^ k % y = ((Y % y * 2) - y) by have := HX2.out.2.1.2; rw [if_pos (show y ≤ 2 * (Y % y) + 0 by have := HVB.out; omega)] at this; omega)
            go_wp2
            go_roundg k
            case measure => have := HGK.out; omega
            case rel => exact ⟨k, q2, r3, qc2, rc3, ql2, rl3, by omega, rfl, rfl, rfl, rfl, Lib.hid ⟨⟨H9.out.2.2.bx, H9.out.2.2.bY, H9.out.2.2.bt, H9.out.2.2.bo, by rw [HF1.out]; exact H9.out.1, by rw [HF2.out]; exact H9.out.2.1, H9.out.2.2.bel⟩, ⟨HCPw9.out, HCPw8.out⟩, HNAw9.out.le HBLw9.out, HNAw8.out.le HBLw8.out⟩⟩
          · have hbv : bits .and .i64 ((d : Int) / 2 ^ (k % 30)) 1 = 0 := by
              have h1 := and_i64 (d / 2 ^ (k % 30)) 1 (Nat.lt_of_le_of_lt (Nat.div_le_self _ _) (by omega)) (by omega)
              rw [Nat.and_one_is_mod, hbit] at h1
              rw [show ((d / 2 ^ (k % 30) : Nat) : Int) = (d : Int) / 2 ^ (k % 30) by simp] at h1
              exact h1
            clear hbit
            have HVB := Lib.hid hge
            go_wp2_with fail
            have HC := Lib.hid (bigCmp_any (Y % y * 2) y r1 a2 rl1 l2 rc1 c2 w5 (by omega) (by omega) H5.out.2.1 H5.out.2.2.bY)
            obtain ⟨z, hz⟩ : ∃ z, cmpN (Y % y * 2) y = z := ⟨_, rfl⟩
            have hz0 : z < (0:Int) := by rw [← hz]; unfold cmpN; rw [if_pos (by omega)]; omega
            rw [hz] at HC
            clear hz
            refine HC.out.mono ?_
            rintro e w7 ⟨rfl, hb7⟩
            have H7 := Lib.hid (And.intro (H5.out.1.below hb7) (And.intro (H5.out.2.1.below hb7) (H5.out.2.2.all hb7)))
            clear hb7 H5 HC
            go_wp2_with fail
            have HF1 := Lib.hid (show x / 2 ^ k / y = (Y / y * 2) by have := HX2.out.2.1.1; rw [if_neg (show ¬ y ≤ 2 * (Y % y) + 0 by have := HVB.out; omega)] at this; omega)
            have HF2 := Lib.hid (show x / 2 ^ k % y = (Y % y * 2) by have := HX2.out.2.1.2; rw [if_neg (show ¬ y ≤ 2 * (Y % y) + 0 by have := HVB.out; omega)] at this; omega)
            go_wp2
            go_roundg k
            case measure => have := HGK.out; omega
            case rel => exact ⟨k, q1, r1, qc1, rc1, ql1, rl1, by omega, rfl, rfl, rfl, rfl, Lib.hid ⟨⟨H7.out.2.2.bx, H7.out.2.2.bY, H7.out.2.2.bt, H7.out.2.2.bo, by rw [HF1.out]; exact H7.out.1, by rw [HF2.out]; exact H7.out.2.1, H7.out.2.2.bel⟩, ⟨HCPw4.out, HCPw5.out⟩, HNAw4.out.le HBLw4.out, HNAw5.out.le HBLw5.out⟩⟩
        · by_cases hge : y ≤ Y % y * 2 + 1
          · have hbv : bits .and .i64 ((d : Int) / 2 ^ (k % 30)) 1 = 1 := by
              have h1 := and_i64 (d / 2 ^ (k % 30)) 1 (Nat.lt_of_le_of_lt (Nat.div_le_self _ _) (by omega)) (by omega)
              rw [Nat.and_one_is_mod, hbit] at h1
              rw [show ((d / 2 ^ (k % 30) : Nat) : Int) = (d : Int) / 2 ^ (k % 30) by simp] at h1
              exact h1
            clear hbit
            have HVB := Lib.hid hge
            go_wp2_with fail
            have HBLw6 := Lib.hid H5.out.2.2.bel.size
            refine (bigPlus_any (Y % y * 2) 1 r1 ao rl1 1 rc1 co w5 (by omega) (by omega) H5.out.2.1 H5.out.2.2.bo).mono ?_
            rintro e w6 ⟨r2, rc2, rl2, rfl, hr2, capw6, hb6, neww6⟩
            have HCPw6 := Lib.hid capw6
            have HNAw6 := Lib.hid neww6
            clear capw6 neww6
            have H6 := Lib.hid (And.intro (H5.out.1.below hb6) (And.intro hr2 (H5.out.2.2.all hb6)))
            have hrl2 := len_dbl hr2 HL.out.2 (by omega : Y % y * 2 + 1 ≤ y * 2)
            clear hr2 hb6 H5
            go_wp2_with fail
            have HC := Lib.hid (bigCmp_any (Y % y * 2 + 1) y r2 a2 rl2 l2 rc2 c2 w6 (by omega) (by omega) H6.out.2.1 H6.out.2.2.bY)
            obtain ⟨z, hz⟩ : ∃ z, cmpN (Y % y * 2 + 1) y = z := ⟨_, rfl⟩
            have hz0 : (0:Int) ≤ z := by rw [← hz]; unfold cmpN; rw [if_neg (by omega)]; split <;> omega
            rw [hz] at HC
            clear hz
            refine HC.out.mono ?_
            rintro e w7 ⟨rfl, hb7⟩
            have H7 := Lib.hid (And.intro (H6.out.1.below hb7) (And.intro (H6.out.2.1.below hb7) (H6.out.2.2.all hb7)))
            clear hb7 H6 HC
            go_wp2_with fail
            have HBLw8 := Lib.hid H7.out.2.2.bel.size
            refine (bigMinus_any (Y % y * 2 + 1) y r2 a2 rl2 l2 rc2 c2 w7 (by omega) (by omega) H7.out.2.1 H7.out.2.2.bY).mono ?_
            rintro e w8 ⟨r3, rc3, rl3, rfl, hr3, capw8, hb8, neww8⟩
            have HCPw8 := Lib.hid capw8
            have HNAw8 := Lib.hid neww8
            clear capw8 neww8
            have H8 := Lib.hid (And.intro (H7.out.1.below hb8) (And.intro hr3 (H7.out.2.2.all hb8)))
            clear hr3 hb8 H7
            go_wp2_with fail
            have HBLw9 := Lib.hid H8.out.2.2.bel.size
            refine (bigPlus_any (Y / y * 2) 1 q1 ao ql1 1 qc1 co w8 (by omega) (by omega) H8.out.1 H8.out.2.2.bo).mono ?_
            rintro e w9 ⟨q2, qc2, ql2, rfl, hq2, capw9, hb9, neww9⟩
            have HCPw9 := Lib.hid capw9
            have HNAw9 := Lib.hid neww9
            clear capw9 neww9
            have H9 := Lib.hid (And.intro hq2 (And.intro (H8.out.2.1.below hb9) (H8.out.2.2.all hb9)))
            clear hq2 hb9 H8
            have HF1 := Lib.hid (show x / 2 ^ k / y = (Y / y * 2 + 1) by have := HX2.out.2.1.1; rw [if_pos (show y ≤ 2 * (Y % y) + 1 by have := HVB.out; omega)] at this; omega)
            have HF2 := Lib.hid (show x / 2 ^ k % y = ((Y % y * 2 + 1) - y) by have := HX2.out.2.1.2; rw [if_pos (show y ≤ 2 * (Y % y) + 1 by have := HVB.out; omega)] at this; omega)
            go_wp2
            go_roundg k
            case measure => have := HGK.out; omega
            case rel => exact ⟨k, q2, r3, qc2, rc3, ql2, rl3, by omega, rfl, rfl, rfl, rfl, Lib.hid ⟨⟨H9.out.2.2.bx, H9.out.2.2.bY, H9.out.2.2.bt, H9.out.2.2.bo, by rw [HF1.out]; exact H9.out.1, by rw [HF2.out]; exact H9.out.2.1, H9.out.2.2.bel⟩, ⟨HCPw9.out, HCPw8.out⟩, HNAw9.out.le HBLw9.out, HNAw8.out.le HBLw8.out⟩⟩
          · have hbv : bits .and .i64 ((d : Int) / 2 ^ (k % 30)) 1 = 1 := by
              have h1 := and_i64 (d / 2 ^ (k % 30)) 1 (Nat.lt_of_le_of_lt (Nat.div_le_self _ _) (by omega)) (by omega)
              rw [Nat.and_one_is_mod, hbit] at h1
              rw [show ((d / 2 ^ (k % 30) : Nat) : Int) = (d : Int) / 2 ^ (k % 30) by simp] at h1
              exact h1
            clear hbit
            have HVB := Lib.hid hge
            go_wp2_with fail
            have HBLw6 := Lib.hid H5.out.2.2.bel.size
            refine (bigPlus_any (Y % y * 2) 1 r1 ao rl1 1 rc1 co w5 (by omega) (by omega) H5.out.2.1 H5.out.2.2.bo).mono ?_
            rintro e w6 ⟨r2, rc2, rl2, rfl, hr2, capw6, hb6, neww6⟩
            have HCPw6 := Lib.hid capw6
            have HNAw6 := Lib.hid neww6
            clear capw6 neww6
            have H6 := Lib.hid (And.intro (H5.out.1.below hb6) (And.intro hr2 (H5.out.2.2.all hb6)))
            have hrl2 := len_dbl hr2 HL.out.2 (by omega : Y % y * 2 + 1 ≤ y * 2)
            clear hr2 hb6 H5
            go_wp2_with fail
            have HC := Lib.hid (bigCmp_any (Y % y * 2 + 1) y r2 a2 rl2 l2 rc2 c2 w6 (by omega) (by omega) H6.out.2.1 H6.out.2.2.bY)
            obtain ⟨z, hz⟩ : ∃ z, cmpN (Y % y * 2 + 1) y = z := ⟨_, rfl⟩
            have hz0 : z < (0:Int) := by rw [← hz]; unfold cmpN; rw [if_pos (by omega)]; omega
            rw [hz] at HC
            clear hz
            refine HC.out.mono ?_
            rintro e w7 ⟨rfl, hb7⟩
            have H7 := Lib.hid (And.intro (H6.out.1.below hb7) (And.intro (H6.out.2.1.below hb7) (H6.out.2.2.all hb7)))
            clear hb7 H6 HC
            go_wp2_with fail
            have HF1 := Lib.hid (show x / 2 ^ k / y = (Y / y * 2) by have := HX2.out.2.1.1; rw [if_neg (show ¬ y ≤ 2 * (Y % y) + 1 by have := HVB.out; omega)] at this; omega)
            have HF2 := Lib.hid (show x / 2 ^ k % y = (Y % y * 2 + 1) by have := HX2.out.2.1.2; rw [if_neg (show ¬ y ≤ 2 * (Y % y) + 1 by have := HVB.out; omega)] at this; omega)
            go_wp2
            go_roundg k
            case measure => have := HGK.out; omega
            case rel => exact ⟨k, q1, r2, qc1, rc2, ql1, rl2, by omega, rfl, rfl, rfl, rfl, Lib.hid ⟨⟨H7.out.2.2.bx, H7.out.2.2.bY, H7.out.2.2.bt, H7.out.2.2.bo, by rw [HF1.out]; exact H7.out.1, by rw [HF2.out]; exact H7.out.2.1, H7.out.2.2.bel⟩, ⟨HCPw4.out, HCPw6.out⟩, HNAw4.out.le HBLw4.out, HNAw6.out.le HBLw6.out⟩⟩
theorem bigSplit_any (x y : Nat) (a1 a2 : Option Addr) (l1 l2 c1 c2 : Nat) (w : World) (hb1 : l1 ≤ 500000) (hb2 : l2 ≤ 500000) (hy : y ≠ 0) (h1 : IsBig w a1 l1 x) (h2 : IsBig w a2 l2 y) (hc : CapOk l1 c1) :
    Calls Tryz.prog 134 #[.slice a1 l1 c1, .slice a2 l2 c2] w (RetBig2 w (x / y) (x % y)) := by
  rcases Nat.lt_or_ge l1 l2 with h | h
  · exact bigSplit_less x y a1 a2 l1 l2 c1 c2 w hb1 hb2 h1 h2 h
  · exact bigSplit_ge x y a1 a2 l1 l2 c1 c2 w hb1 hb2 hy h1 h2 h hc.1 hc.2
end B30
end Go.Proofs.YtaneocedklnajaaGreat

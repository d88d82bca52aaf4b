import Derived.Test.YtpineiocjaajnaaBase
/- Lists of numbers by length and by the order of words, signs, and the nearest numbers with a remainder: plain facts. No condition. -/
namespace Go.Proofs.Ytpineiocjaajnaa
set_option linter.unusedVariables false
/-- The sum of squares. -/
def sqL : List Int → Int
  | [] => 0
  | x :: l => x * x + sqL l
theorem sq_nn (x : Int) : 0 ≤ x * x := by
  rcases Int.le_total 0 x with h | h
  · exact Int.mul_nonneg h h
  · exact Int.mul_nonneg_of_nonpos_of_nonpos h h
theorem sqL_nonneg : ∀ l, 0 ≤ sqL l
  | [] => Int.le_refl _
  | x :: l => by have := sqL_nonneg l; have := sq_nn x; simp only [sqL]; omega
theorem sqL_append (a b : List Int) : sqL (a ++ b) = sqL a + sqL b := by
  induction a with
  | nil => simp [sqL]
  | cons x a ih => simp only [List.cons_append, sqL, ih]; omega
theorem sqL_neg (l : List Int) : sqL (l.map (- ·)) = sqL l := by
  induction l with
  | nil => rfl
  | cons x l ih => simp only [List.map_cons, sqL, ih, Int.neg_mul_neg]
/-- Lexicographically less. -/
def lxB : List Int → List Int → Bool
  | x :: a, y :: b => if x = y then lxB a b else decide (x < y)
  | _, _ => false
theorem lxB_irrefl : ∀ l, lxB l l = false
  | [] => rfl
  | x :: l => by simp [lxB, lxB_irrefl l]
theorem lxB_trans : ∀ {a b c : List Int}, lxB a b = true → lxB b c = true → lxB a c = true
  | x :: a, y :: b, z :: c, h1, h2 => by
    simp only [lxB] at *
    by_cases e1 : x = y
    · by_cases e2 : y = z
      · subst e1; subst e2
        rw [if_pos rfl] at *
        exact lxB_trans h1 h2
      · subst e1; rw [if_neg e2] at *; exact h2
    · rw [if_neg e1] at h1
      by_cases e2 : y = z
      · subst e2; rw [if_neg e1]; exact h1
      · rw [if_neg e2] at h2
        simp only [decide_eq_true_eq] at h1 h2
        rw [if_neg (by omega)]
        simp; omega
  | [], _, _, h, _ => by simp [lxB] at h
  | _ :: _, [], _, h, _ => by simp [lxB] at h
  | _ :: _, _ :: _, [], _, h => by simp [lxB] at h
theorem lxB_tri : ∀ {a b : List Int}, a.length = b.length → lxB a b = false → lxB b a = false → a = b
  | [], [], _, _, _ => rfl
  | x :: a, y :: b, h, h1, h2 => by
    simp only [lxB] at h1 h2
    by_cases e : x = y
    · subst e
      rw [if_pos rfl] at h1 h2
      rw [lxB_tri (by simpa using h) h1 h2]
    · rw [if_neg e] at h1
      rw [if_neg (fun e' => e e'.symm)] at h2
      simp only [decide_eq_false_iff_not] at h1 h2
      omega
/-- The first list is better: shorter, or as short and lexicographically less. -/
def btB (a b : List Int) : Bool := decide (sqL a < sqL b) || (decide (sqL a = sqL b) && lxB a b)
theorem btB_irrefl (a : List Int) : btB a a = false := by simp [btB, lxB_irrefl]
theorem btB_trans {a b c : List Int} (h1 : btB a b = true) (h2 : btB b c = true) : btB a c = true := by
  simp only [btB, Bool.or_eq_true, Bool.and_eq_true, decide_eq_true_eq] at *
  rcases h1 with h1 | ⟨e1, l1⟩ <;> rcases h2 with h2 | ⟨e2, l2⟩
  · exact Or.inl (by omega)
  · exact Or.inl (by omega)
  · exact Or.inl (by omega)
  · exact Or.inr ⟨by omega, lxB_trans l1 l2⟩
theorem btB_tri {a b : List Int} (hl : a.length = b.length) (h1 : btB a b = false) (h2 : btB b a = false) : a = b := by
  simp only [btB, Bool.or_eq_false_iff, Bool.and_eq_false_iff, decide_eq_false_iff_not] at *
  have e : sqL a = sqL b := by omega
  exact lxB_tri hl (by rcases h1.2 with h | h; exact absurd e h; exact h) (by rcases h2.2 with h | h; exact absurd e.symm h; exact h)
theorem btB_of_lt {a b : List Int} (h : sqL a < sqL b) : btB a b = true := by simp [btB, h]
theorem btB_not {a b : List Int} (h : sqL b < sqL a) : btB a b = false := by
  simp only [btB, Bool.or_eq_false_iff, Bool.and_eq_false_iff, decide_eq_false_iff_not]
  exact ⟨by omega, Or.inl (by omega)⟩
/-- The second list is no better than the first. -/
def geB (c v : List Int) : Prop := btB v c = false
theorem geB_refl (c : List Int) : geB c c := btB_irrefl c
theorem geB_trans {a b c : List Int} (hl : a.length = b.length) (hl2 : b.length = c.length) (h1 : geB a b) (h2 : geB b c) : geB a c := by
  unfold geB at *
  cases h : btB c a with
  | false => rfl
  | true =>
    by_cases e : btB a b = true
    · rw [btB_trans h e] at h2; cases h2
    · have : a = b := btB_tri hl (by simpa using e) h1
      subst this
      rw [h] at h2; cases h2
theorem geB_of_bt {a b : List Int} (h : btB a b = true) : geB a b := by
  unfold geB
  cases h2 : btB b a with
  | false => rfl
  | true => have := btB_trans h h2; rw [btB_irrefl] at this; cases this
theorem geB_uniq {a b : List Int} (hl : a.length = b.length) (h1 : geB a b) (h2 : geB b a) : a = b := btB_tri hl h2 h1
/-- The first element that is not 0 is positive. -/
def posL : List Int → Bool
  | [] => false
  | x :: l => if x = 0 then posL l else decide (0 < x)
def zerL (l : List Int) : Bool := l.all (· == 0)
theorem posL_neg : ∀ l, zerL l = false → posL l = false → posL (l.map (- ·)) = true
  | [], h, _ => by simp [zerL] at h
  | x :: l, h, h2 => by
    simp only [List.map_cons, posL] at *
    by_cases e : x = 0
    · subst e
      rw [if_pos rfl] at h2
      rw [if_pos (by omega)]
      exact posL_neg l (by simpa [zerL] using h) h2
    · rw [if_neg e] at h2
      rw [if_neg (by omega)]
      simp at h2 ⊢; omega
theorem posL_not_zero : ∀ l, posL l = true → zerL l = false
  | [], h => by simp [posL] at h
  | x :: l, h => by
    simp only [posL] at h
    by_cases e : x = 0
    · subst e; rw [if_pos rfl] at h; have := posL_not_zero l h; simpa [zerL] using this
    · simp [zerL, e]
/-- A list or its opposite. -/
def sgnL (l : List Int) : List Int := if posL l || zerL l then l else l.map (- ·)
theorem sgnL_pos {l : List Int} (h : posL l = true) : sgnL l = l := by unfold sgnL; rw [h]; rfl
theorem sgnL_ok {l : List Int} (h : zerL l = false) : posL (sgnL l) = true := by
  unfold sgnL
  cases hp : posL l with
  | true => simpa using hp
  | false => rw [h]; exact posL_neg l h hp
theorem sgnL_len (l : List Int) : (sgnL l).length = l.length := by unfold sgnL; split <;> simp
theorem sgnL_sq (l : List Int) : sqL (sgnL l) = sqL l := by unfold sgnL; split; rfl; exact sqL_neg l
/-- The integer with the remainder of n that is nearest to 0, the positive one of two. -/
def nearM (n m : Int) : Int := if m < 2 * (n % m) then n % m - m else n % m
theorem nearM_bd (n m : Int) (hm : 0 < m) : -m < 2 * nearM n m ∧ 2 * nearM n m ≤ m := by
  have h1 := Int.emod_nonneg n (show m ≠ 0 by omega)
  have h2 := Int.emod_lt_of_pos n hm
  unfold nearM; split <;> omega
theorem nearM_mod (n m : Int) : (n - nearM n m) % m = 0 := by
  have h := Int.emod_add_mul_ediv n m
  unfold nearM
  split
  · have : n - (n % m - m) = m * (n / m + 1) := by rw [Int.mul_add]; omega
    rw [this]; exact Int.mul_emod_right _ _
  · have : n - n % m = m * (n / m) := by omega
    rw [this]; exact Int.mul_emod_right _ _
/-- The nearest ones. -/
def twoM (n m : Int) : List Int := if 2 * nearM n m = m then [-nearM n m, nearM n m] else [nearM n m]
theorem sq_lt {x y : Int} (h : x.natAbs < y.natAbs) : x * x < y * y := by
  rw [← Int.natAbs_mul_self' x, ← Int.natAbs_mul_self' y]
  have := Nat.mul_lt_mul'' h h
  exact_mod_cast this
theorem sq_le {x y : Int} (h : x.natAbs ≤ y.natAbs) : x * x ≤ y * y := by
  rw [← Int.natAbs_mul_self' x, ← Int.natAbs_mul_self' y]
  have := Nat.mul_le_mul h h
  exact_mod_cast this
theorem mod_two {m d : Int} (hm : 0 < m) (h : d % m = 0) (h1 : -m < d) (h2 : d < m) : d = 0 := by
  by_cases h0 : 0 ≤ d
  · rw [Int.emod_eq_of_lt h0 h2] at h; exact h
  · have : (d + m) % m = 0 := by rw [Int.add_emod_right]; exact h
    rw [Int.emod_eq_of_lt (by omega) (by omega)] at this
    omega
/-- Whoever has the remainder is one of the nearest or further off. -/
theorem twoM_best {n m v : Int} (hm : 0 < m) (h : (v - n) % m = 0) : v ∈ twoM n m ∨ (nearM n m).natAbs < v.natAbs := by
  have hb := nearM_bd n m hm
  have hd : (v - nearM n m) % m = 0 := by
    have e : v - nearM n m = (v - n) + (n - nearM n m) := by omega
    rw [e, Int.add_emod, h, nearM_mod]; simp
  by_cases hlt : (nearM n m).natAbs < v.natAbs
  · exact Or.inr hlt
  · left
    generalize hr : nearM n m = r at *
    unfold twoM
    rw [hr]
    have hv : -m < v - r ∧ v - r < m ∨ v - r = m ∨ v - r = -m := by omega
    rcases hv with ⟨a, b⟩ | hv | hv
    · have := mod_two hm hd a b
      have : v = r := by omega
      subst this
      split <;> simp
    · omega
    · have e : 2 * r = m := by omega
      rw [if_pos e]
      have : v = -r := by omega
      simp [this]
theorem twoM_abs {n m w : Int} (h : w ∈ twoM n m) : w.natAbs = (nearM n m).natAbs := by
  unfold twoM at h
  split at h
  · simp only [List.mem_cons, List.not_mem_nil, or_false] at h
    rcases h with rfl | rfl <;> omega
  · simp only [List.mem_singleton] at h; rw [h]
theorem twoM_mod {n m w : Int} (h : w ∈ twoM n m) : (w - n) % m = 0 := by
  have h1 := nearM_mod n m
  have h2 : (nearM n m - n) % m = 0 := by
    have e : nearM n m - n = -(n - nearM n m) := by omega
    rw [e]; exact Int.emod_eq_zero_of_dvd (Int.dvd_neg.2 (Int.dvd_of_emod_eq_zero h1))
  unfold twoM at h
  split at h
  · rename_i e
    simp only [List.mem_cons, List.not_mem_nil, or_false] at h
    rcases h with rfl | rfl
    · have e2 : -nearM n m - n = (nearM n m - n) + m * (-1) := by omega
      rw [e2, Int.add_mul_emod_self_left]; exact h2
    · exact h2
  · simp only [List.mem_singleton] at h; rw [h]; exact h2
theorem twoM_near (n m : Int) : nearM n m ∈ twoM n m := by unfold twoM; split <;> simp
end Go.Proofs.Ytpineiocjaajnaa

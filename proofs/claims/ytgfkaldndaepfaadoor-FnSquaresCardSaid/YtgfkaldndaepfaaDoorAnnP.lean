import Derived.Test.YtgfkaldndaepfaaDoorAnn
/- Rows of bits as numbers, a basis by greatest bits: plain facts. No condition. -/
namespace Go.Proofs.YtgfkaldndaepfaaDoor
set_option linter.unusedVariables false

theorem lead_true {x : Nat} (h : x ≠ 0) : x.testBit x.log2 = true := by
  rw [Nat.testBit_eq_decide_div_mod_eq]
  have h1 := Nat.log2_self_le h
  have h2 := Nat.lt_log2_self (n := x)
  have hp : 0 < 2 ^ x.log2 := Nat.two_pow_pos _
  have h3 : x / 2 ^ x.log2 = 1 := by
    rw [Nat.pow_succ] at h2
    have a : 1 ≤ x / 2 ^ x.log2 := (Nat.le_div_iff_mul_le hp).2 (by omega)
    have b : x / 2 ^ x.log2 < 2 := (Nat.div_lt_iff_lt_mul hp).2 (by omega)
    omega
  rw [h3]; rfl
theorem lead_false {x j : Nat} (h : x.log2 < j) : x.testBit j = false :=
  Nat.testBit_lt_two_pow (Nat.lt_of_lt_of_le Nat.lt_log2_self (Nat.pow_le_pow_right (by omega) h))
theorem xor_lead {x y : Nat} (hx : x ≠ 0) (hy : y ≠ 0) (e : x.log2 = y.log2) : x ^^^ y < 2 ^ x.log2 := by
  apply Nat.lt_pow_two_of_testBit
  intro i hi
  rw [Nat.testBit_xor]
  rcases Nat.lt_or_ge x.log2 i with h | h
  · rw [lead_false h, lead_false (by rw [← e]; exact h)]; rfl
  · have : i = x.log2 := by omega
    subst this
    rw [lead_true hx, e, lead_true hy]; rfl
/-- The first t rows of R are the numbers B, none zero, no two with one greatest bit. -/
structure Bas (R : Nat → Nat → Bool) (t m : Nat) (B : Nat → Nat) : Prop where
  row : ∀ i, i < t → ∀ x, x < m → R i x = (B i).testBit x
  nz : ∀ i, i < t → B i ≠ 0
  lt : ∀ i, i < t → (B i).log2 < m
  one : ∀ i j, i < t → j < t → (B i).log2 = (B j).log2 → i = j
theorem Bas.add {R : Nat → Nat → Bool} {t m : Nat} {B : Nat → Nat} (h : Bas R t m B) {r x N : Nat} (hr : r < t) (ht : t < N) (hx : ∀ y, y < m → R t y = x.testBit y) :
    ∃ R', Bas R' t m B ∧ (∀ y, y < m → R' t y = (x ^^^ B r).testBit y) ∧ (∀ i, t < i → ∀ y, R' i y = R i y) ∧ (DepR R' N m ↔ DepR R N m) := by
  refine ⟨addR R (fun i => decide (i = t)) r, ⟨fun i hi y hy => ?_, h.nz, h.lt, h.one⟩, fun y hy => ?_, fun i hi y => ?_, ?_⟩
  · show xor (R i y) (decide (i = t) && R r y) = _
    rw [decide_eq_false (show ¬ i = t by omega), Bool.false_and, Bool.xor_false]
    exact h.row i hi y hy
  · show xor (R t y) (decide (t = t) && R r y) = _
    rw [decide_eq_true rfl, Bool.true_and, hx y hy, h.row r hr y hy, Nat.testBit_xor]
  · show xor (R i y) (decide (i = t) && R r y) = _
    rw [decide_eq_false (show ¬ i = t by omega), Bool.false_and, Bool.xor_false]
  · exact dep_add (by omega) (decide_eq_false (by omega))
theorem Bas.push {R : Nat → Nat → Bool} {t m : Nat} {B : Nat → Nat} (h : Bas R t m B) {x : Nat} (hx : ∀ y, y < m → R t y = x.testBit y) (hn : x ≠ 0) (hl : x.log2 < m) (hnew : ∀ r, r < t → (B r).log2 ≠ x.log2) :
    Bas R (t + 1) m (fun i => if i = t then x else B i) := by
  refine ⟨fun i hi y hy => ?_, fun i hi => ?_, fun i hi => ?_, fun i j hi hj he => ?_⟩
  · by_cases e : i = t
    · subst e; rw [if_pos rfl]; exact hx y hy
    · rw [if_neg e]; exact h.row i (by omega) y hy
  · by_cases e : i = t
    · subst e; rw [if_pos rfl]; exact hn
    · rw [if_neg e]; exact h.nz i (by omega)
  · by_cases e : i = t
    · subst e; rw [if_pos rfl]; exact hl
    · rw [if_neg e]; exact h.lt i (by omega)
  · by_cases e : i = t
    · by_cases e2 : j = t
      · omega
      · rw [if_pos e, if_neg e2] at he
        exact absurd he.symm (hnew j (by omega))
    · by_cases e2 : j = t
      · rw [if_neg e, if_pos e2] at he
        exact absurd he (hnew i (by omega))
      · rw [if_neg e, if_neg e2] at he
        exact h.one i j (by omega) (by omega) he
theorem Bas.indep {R : Nat → Nat → Bool} {N m : Nat} {B : Nat → Nat} (h : Bas R N m B) : ¬ DepR R N m :=
  indep_lead (fun i => (B i).log2) (fun i hi => ⟨h.lt i hi, by rw [h.row i hi _ (h.lt i hi)]; exact lead_true (h.nz i hi)⟩) (fun i j hi hj he => h.one i j hi hj he)
    (fun i hi x hx hm => by rw [h.row i hi x hm]; exact lead_false hx)
end Go.Proofs.YtgfkaldndaepfaaDoor

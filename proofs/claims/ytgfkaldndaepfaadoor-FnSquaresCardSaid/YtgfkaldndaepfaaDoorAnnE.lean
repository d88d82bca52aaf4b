import Derived.Test.YtgfkaldndaepfaaDoorAnnR
/- Elimination of rows of bits with pivots: what each step keeps, and how its end tells whether the rows are dependent. Plain facts. No condition. -/
namespace Go.Proofs.YtgfkaldndaepfaaDoor
set_option linter.unusedVariables false

/-- r rows have pivots before the column c, the rows below them are 0 in these pivots, and the rows from r on are 0 before c. -/
structure Ech (R : Nat → Nat → Bool) (N r c : Nat) (p : Nat → Nat) : Prop where
  piv : ∀ i, i < r → p i < c ∧ R i (p i) = true
  low : ∀ i j, i < r → i < j → j < N → R j (p i) = false
  zer : ∀ j, r ≤ j → j < N → ∀ x, x < c → R j x = false
/-- .. with the rows that R0 began with. -/
def Ec (R0 R : Nat → Nat → Bool) (N M r c : Nat) : Prop := r ≤ N ∧ r ≤ c ∧ c ≤ M ∧ (DepR R N M ↔ DepR R0 N M) ∧ ∃ p, Ech R N r c p
theorem ec_start (R0 : Nat → Nat → Bool) (N M : Nat) : Ec R0 R0 N M 0 0 :=
  ⟨Nat.zero_le _, Nat.zero_le _, Nat.zero_le _, Iff.rfl, fun _ => 0, ⟨fun i h => absurd h (Nat.not_lt_zero i), fun i j h => absurd h (Nat.not_lt_zero i), fun j _ _ x h => absurd h (Nat.not_lt_zero x)⟩⟩
theorem ec_skip {R0 R : Nat → Nat → Bool} {N M r c : Nat} (h : Ec R0 R N M r c) (hc : c < M) (hz : ∀ j, r ≤ j → j < N → R j c = false) : Ec R0 R N M r (c + 1) := by
  obtain ⟨h1, h2, h3, h4, p, h5⟩ := h
  refine ⟨h1, by omega, by omega, h4, p, ⟨fun i hi => ⟨by have := (h5.piv i hi).1; omega, (h5.piv i hi).2⟩, h5.low, fun j hj hjn x hx => ?_⟩⟩
  by_cases e : x = c
  · subst e; exact hz j hj hjn
  · exact h5.zer j hj hjn x (by omega)
theorem ec_end {R0 R : Nat → Nat → Bool} {N M r : Nat} (h : Ec R0 R N M r M) : (r < N) ↔ DepR R0 N M := by
  obtain ⟨h1, h2, h3, h4, p, h5⟩ := h
  constructor
  · intro hr
    exact h4.1 (dep_zero hr (h5.zer r (Nat.le_refl r) hr))
  · intro hd
    rcases Nat.lt_or_ge r N with hl | hl
    · exact hl
    · have hrn : r = N := by omega
      subst hrn
      exact absurd (h4.2 hd) (indep_below p h5.piv (fun i j hij hj => h5.low i j (by omega) hij hj))
/-- The rows from r on up to i have had the pivot's row added where the column c is 1. -/
def Ei (R0 R : Nat → Nat → Bool) (N M r c i : Nat) : Prop :=
  ∃ Q p, r < N ∧ r ≤ c ∧ c < M ∧ (DepR Q N M ↔ DepR R0 N M) ∧ Ech Q N r c p ∧ Q r c = true ∧ ∀ j x, R j x = addR Q (fun q => decide (r < q) && decide (q < i) && Q q c) r j x
theorem ei_start {R0 R R' : Nat → Nat → Bool} {N M r c a : Nat} (h : Ec R0 R N M r c) (hc : c < M) (hra : r ≤ a) (ha : a < N) (hp : R a c = true) (hR : ∀ j x, R' j x = R (sw a r j) x) : Ei R0 R' N M r c (r + 1) := by
  obtain ⟨h1, h2, h3, h4, p, h5⟩ := h
  have hs : ∀ j, j < r → sw a r j = j := fun j hj => by
    unfold sw
    rw [if_neg (by omega), if_neg (by omega)]
  have hs2 : ∀ j, r ≤ j → r ≤ sw a r j := fun j hj => by
    unfold sw
    split
    · omega
    · split <;> omega
  have hsr : sw a r r = a := by
    unfold sw
    split
    · omega
    · simp
  have hrN : r < N := by omega
  refine ⟨fun j => R (sw a r j), p, hrN, h2, hc, (dep_sw ha hrN).trans h4, ⟨fun i hi => ?_, fun i j hi hij hj => ?_, fun j hj hjn x hx => ?_⟩, ?_, fun j x => ?_⟩
  · show _ ∧ R (sw a r i) (p i) = true
    rw [hs i hi]
    exact h5.piv i hi
  · show R (sw a r j) (p i) = false
    rcases Nat.lt_or_ge j r with hl | hl
    · rw [hs j hl]; exact h5.low i j hi hij hj
    · exact h5.low i _ hi (by have := hs2 j hl; omega) (sw_lt ha hrN hj)
  · show R (sw a r j) x = false
    exact h5.zer _ (hs2 j hj) (sw_lt ha hrN hjn) x hx
  · show R (sw a r r) c = true
    rw [hsr]; exact hp
  · rw [hR j x]
    simp only [addR]
    have e : (decide (r < j) && decide (j < r + 1)) = false := by
      rcases Nat.lt_or_ge r j with hl | hl
      · rw [decide_eq_true hl, decide_eq_false (by omega)]; rfl
      · rw [decide_eq_false (by omega)]; rfl
    rw [e]
    simp
theorem ei_no {R0 R : Nat → Nat → Bool} {N M r c i : Nat} (h : Ei R0 R N M r c i) (hri : r < i) (hz : R i c = false) : Ei R0 R N M r c (i + 1) := by
  obtain ⟨Q, p, h1, h2, h3, h4, h5, h6, h7⟩ := h
  refine ⟨Q, p, h1, h2, h3, h4, h5, h6, fun j x => ?_⟩
  rw [h7 j x]
  have hq : Q i c = false := by
    have := h7 i c
    rw [hz] at this
    simp only [addR] at this
    rw [decide_eq_false (Nat.lt_irrefl i)] at this
    simpa using this.symm
  simp only [addR]
  by_cases e : j = i
  · subst e; rw [hq]; simp
  · have : decide (j < i + 1) = decide (j < i) := by
      rcases Nat.lt_or_ge j i with hl | hl
      · rw [decide_eq_true hl, decide_eq_true (by omega)]
      · rw [decide_eq_false (by omega), decide_eq_false (by omega)]
    rw [this]
theorem ei_yes {R0 R R' : Nat → Nat → Bool} {N M r c i : Nat} (h : Ei R0 R N M r c i) (hri : r < i) (hz : R i c = true) (hR : ∀ j x, R' j x = if j = i then xor (R i x) (R r x) else R j x) : Ei R0 R' N M r c (i + 1) := by
  obtain ⟨Q, p, h1, h2, h3, h4, h5, h6, h7⟩ := h
  refine ⟨Q, p, h1, h2, h3, h4, h5, h6, fun j x => ?_⟩
  have hi : ∀ y, R i y = Q i y := fun y => by
    have := h7 i y
    simp only [addR] at this
    rw [decide_eq_false (Nat.lt_irrefl i)] at this
    simpa using this
  have hr : R r x = Q r x := by
    have := h7 r x
    simp only [addR] at this
    rw [decide_eq_false (Nat.lt_irrefl r)] at this
    simpa using this
  rw [hi c] at hz
  rw [hR j x]
  by_cases e : j = i
  · subst e
    rw [if_pos rfl, hi x, hr]
    simp only [addR]
    rw [hz, decide_eq_true hri, decide_eq_true (Nat.lt_succ_self j)]
    simp
  · rw [if_neg e, h7 j x]
    simp only [addR]
    have : decide (j < i + 1) = decide (j < i) := by
      rcases Nat.lt_or_ge j i with hl | hl
      · rw [decide_eq_true hl, decide_eq_true (by omega)]
      · rw [decide_eq_false (by omega), decide_eq_false (by omega)]
    rw [this]
theorem ei_end {R0 R : Nat → Nat → Bool} {N M r c : Nat} (h : Ei R0 R N M r c N) : Ec R0 R N M (r + 1) (c + 1) := by
  obtain ⟨Q, p, h1, h2, h3, h4, h5, h6, h7⟩ := h
  have hS : (fun q => decide (r < q) && decide (q < N) && Q q c) r = false := by
    show (decide (r < r) && decide (r < N) && Q r c) = false
    rw [decide_eq_false (Nat.lt_irrefl r)]; rfl
  have hRQ : R = addR Q (fun q => decide (r < q) && decide (q < N) && Q q c) r := by
    funext j x; exact h7 j x
  rw [hRQ]
  have hlow : ∀ j x, j ≤ r → addR Q (fun q => decide (r < q) && decide (q < N) && Q q c) r j x = Q j x := fun j x hj => by
    simp only [addR]
    rw [decide_eq_false (show ¬ r < j by omega)]
    simp
  have hz0 : ∀ j x, r < j → j < N → x < c → addR Q (fun q => decide (r < q) && decide (q < N) && Q q c) r j x = false := fun j x hj hjn hx => by
    simp only [addR]
    rw [h5.zer j (by omega) hjn x hx, h5.zer r (Nat.le_refl r) h1 x hx]
    simp
  have hzc : ∀ j, r < j → j < N → addR Q (fun q => decide (r < q) && decide (q < N) && Q q c) r j c = false := fun j hj hjn => by
    simp only [addR]
    rw [h6, decide_eq_true hj, decide_eq_true hjn]
    simp
  refine ⟨by omega, by omega, by omega, (dep_add h1 hS).trans h4, fun i => if i = r then c else p i, ⟨fun i hi => ?_, fun i j hi hij hj => ?_, fun j hj hjn x hx => ?_⟩⟩
  · by_cases e : i = r
    · subst e
      simp only [if_true]
      exact ⟨by omega, by rw [hlow i c (Nat.le_refl i)]; exact h6⟩
    · simp only [if_neg e]
      rw [hlow i _ (by omega)]
      have := h5.piv i (by omega)
      exact ⟨by omega, this.2⟩
  · by_cases e : i = r
    · subst e
      simp only [if_true]
      exact hzc j hij hj
    · simp only [if_neg e]
      have hpi := (h5.piv i (by omega)).1
      rcases Nat.lt_or_ge r j with hl | hl
      · exact hz0 j (p i) hl hj hpi
      · rw [hlow j _ hl]
        exact h5.low i j (by omega) hij hj
  · by_cases e : x = c
    · subst e; exact hzc j (by omega) hjn
    · exact hz0 j x (by omega) hjn (by omega)

/-- Only the columns with p: those are told by the list sel. -/
theorem dep_sel {R R' : Nat → Nat → Bool} {N m : Nat} (p : Nat → Bool) (hz : ∀ i x, i < N → x < m → p x = false → R i x = false)
    (hR : ∀ i j, i < N → j < ((List.range m).filter p).length → R' i j = R i (((List.range m).filter p).getD j 0)) : DepR R' N ((List.range m).filter p).length ↔ DepR R N m := by
  constructor
  · rintro ⟨c, hc, h⟩
    refine ⟨c, hc, fun x hx => ?_⟩
    cases hp : p x with
    | false => exact xsum_no N fun i hi => by rw [hz i x hi hx hp]; simp
    | true =>
      have hmem : x ∈ (List.range m).filter p := by simp [hx, hp]
      obtain ⟨j, hj, he⟩ := List.getElem_of_mem hmem
      have hg : ((List.range m).filter p).getD j 0 = x := by
        rw [← he]; simp [List.getD, List.getElem?_eq_getElem hj]
      rw [← h j hj]
      exact xsum_congr_right N fun i hi => by rw [hR i j hi hj, hg]
  · rintro ⟨c, hc, h⟩
    refine ⟨c, hc, fun j hj => ?_⟩
    have hmem : ((List.range m).filter p).getD j 0 ∈ (List.range m).filter p := by
      simp only [List.getD, List.getElem?_eq_getElem hj, Option.getD_some]
      exact List.getElem_mem hj
    have hlt : ((List.range m).filter p).getD j 0 < m := by
      have := (List.mem_filter.1 hmem).1
      simpa using this
    rw [← h _ hlt]
    exact xsum_congr_right N fun i hi => by rw [hR i j hi hj]
end Go.Proofs.YtgfkaldndaepfaaDoor

import Derived.Test.YtgfkaldndaepfaaDoorAnnR
/- The state of the elimination by greatest bits, the basis told by a function on lengths: plain facts. No condition. -/
namespace Go.Proofs.YtgfkaldndaepfaaDoor
set_option linter.unusedVariables false

/-- t rows are done: f holds each at its length. -/
def Stb (R0 : Nat → Nat → Bool) (N m t : Nat) (f : Int → Option Int) : Prop :=
  ∃ R B, Bas R t m B ∧ (DepR R N m ↔ DepR R0 N m) ∧ (∀ i, t ≤ i → ∀ y, R i y = R0 i y) ∧ ∀ (j v : Int), f j = some v ↔ ∃ i, i < t ∧ j = ((B i).log2 : Int) + 1 ∧ v = (B i : Int)
/-- .. and the next one is, as it stands, the number x. -/
def Sta (R0 : Nat → Nat → Bool) (N m t : Nat) (f : Int → Option Int) (x : Nat) : Prop :=
  ∃ R B, Bas R t m B ∧ (DepR R N m ↔ DepR R0 N m) ∧ (∀ i, t < i → ∀ y, R i y = R0 i y) ∧ (∀ y, y < m → R t y = x.testBit y) ∧ ∀ (j v : Int), f j = some v ↔ ∃ i, i < t ∧ j = ((B i).log2 : Int) + 1 ∧ v = (B i : Int)
theorem stb_start (R0 : Nat → Nat → Bool) (N m : Nat) : Stb R0 N m 0 (fun _ => none) := by
  refine ⟨R0, fun _ => 0, ⟨fun i h => absurd h (Nat.not_lt_zero i), fun i h => absurd h (Nat.not_lt_zero i), fun i h => absurd h (Nat.not_lt_zero i), fun i j h => absurd h (Nat.not_lt_zero i)⟩, Iff.rfl, fun _ _ _ => rfl, fun j v => ?_⟩
  constructor
  · intro h
    cases h
  · rintro ⟨i, h, _⟩
    exact absurd h (Nat.not_lt_zero i)
theorem stb_end {R0 : Nat → Nat → Bool} {N m : Nat} {f : Int → Option Int} (h : Stb R0 N m N f) : ¬ DepR R0 N m := by
  obtain ⟨R, B, hB, hd, _, _⟩ := h
  exact fun hc => hB.indep (hd.2 hc)
theorem stb_row {R0 : Nat → Nat → Bool} {N m t x : Nat} {f : Int → Option Int} (h : Stb R0 N m t f) (hx : ∀ y, y < m → R0 t y = x.testBit y) : Sta R0 N m t f x := by
  obtain ⟨R, B, hB, hd, hr, hf⟩ := h
  exact ⟨R, B, hB, hd, fun i hi y => hr i (by omega) y, fun y hy => by rw [hr t (Nat.le_refl _) y]; exact hx y hy, hf⟩
theorem sta_zero {R0 : Nat → Nat → Bool} {N m t : Nat} {f : Int → Option Int} (h : Sta R0 N m t f 0) (ht : t < N) : DepR R0 N m := by
  obtain ⟨R, B, hB, hd, hr, hx, hf⟩ := h
  exact hd.1 (dep_zero ht fun y hy => by rw [hx y hy]; simp)
theorem sta_red {R0 : Nat → Nat → Bool} {N m t x : Nat} {f : Int → Option Int} {v : Int} (h : Sta R0 N m t f x) (ht : t < N) (hn : x ≠ 0) (hv : f ((x.log2 : Int) + 1) = some v) :
    ∃ b : Nat, v = (b : Int) ∧ b.log2 = x.log2 ∧ x ^^^ b < 2 ^ x.log2 ∧ Sta R0 N m t f (x ^^^ b) := by
  obtain ⟨R, B, hB, hd, hr, hx, hf⟩ := h
  obtain ⟨i, hi, hj, rfl⟩ := (hf _ _).1 hv
  have hl : x.log2 = (B i).log2 := by omega
  obtain ⟨R', h1, h2, h3, h4⟩ := hB.add hi ht hx
  exact ⟨B i, rfl, hl.symm, xor_lead hn (hB.nz i hi) hl, R', B, h1, h4.trans hd, fun q hq y => by rw [h3 q hq y]; exact hr q hq y, h2, hf⟩
theorem sta_new {R0 : Nat → Nat → Bool} {N m t x : Nat} {f : Int → Option Int} (h : Sta R0 N m t f x) (hn : x ≠ 0) (hl : x.log2 < m) (hv : f ((x.log2 : Int) + 1) = none) :
    Stb R0 N m (t + 1) (fun j => if j = (x.log2 : Int) + 1 then some (x : Int) else f j) := by
  obtain ⟨R, B, hB, hd, hr, hx, hf⟩ := h
  have hnew : ∀ r, r < t → (B r).log2 ≠ x.log2 := fun r hrt he => by
    have := (hf ((x.log2 : Int) + 1) (B r : Int)).2 ⟨r, hrt, by omega, rfl⟩
    rw [hv] at this
    cases this
  refine ⟨R, _, hB.push hx hn hl hnew, hd, fun i hi y => hr i (by omega) y, fun j v => ?_⟩
  by_cases e : j = (x.log2 : Int) + 1
  · simp only [if_pos e]
    constructor
    · intro hh
      cases hh
      exact ⟨t, by omega, by rw [if_pos rfl]; exact e, by rw [if_pos rfl]⟩
    · rintro ⟨i, hi, hj, rfl⟩
      by_cases ei : i = t
      · rw [if_pos ei]
      · rw [if_neg ei] at hj
        exact absurd (by omega) (hnew i (by omega))
  · simp only [if_neg e]
    rw [hf j v]
    constructor
    · rintro ⟨i, hi, hj, rfl⟩
      exact ⟨i, by omega, by rw [if_neg (by omega)]; exact hj, by rw [if_neg (by omega)]⟩
    · rintro ⟨i, hi, hj, rfl⟩
      by_cases ei : i = t
      · rw [if_pos ei] at hj
        exact absurd hj e
      · rw [if_neg ei] at hj ⊢
        exact ⟨i, by omega, hj, rfl⟩
end Go.Proofs.YtgfkaldndaepfaaDoor

import Derived.Test.YtgfkaldndaepfaaDoorDegr
import Derived.Test.YtgfkaldndaepfaaDoorFour2
/- What the laws on tables ask, in plain facts: places that differ from a sum of inputs, squares, immunity, the normal form's sum. No condition. -/
namespace Go.Proofs.YtgfkaldndaepfaaDoor
set_option linter.unusedVariables false

theorem nrA_max (L : List Int) : ∀ m a : Nat, a < m → ((L.getD a 0).natAbs : Int) ≤ (nrA L m).2.2
  | 0, a, h => by omega
  | m + 1, a, h => by
    rw [nrA]
    by_cases hc : (nrA L m).2.2 < ((L.getD m 0).natAbs : Int)
    · rw [if_pos hc]
      show _ ≤ ((L.getD m 0).natAbs : Int)
      by_cases e : a = m
      · subst e; exact Int.le_refl _
      · have := nrA_max L m a (by omega); omega
    · rw [if_neg hc]
      by_cases e : a = m
      · subst e; omega
      · exact nrA_max L m a (by omega)
theorem nrA_at (L : List Int) : ∀ m : Nat, 0 < m → (nrA L m).2.2 = ((L.getD (nrA L m).1 0).natAbs : Int)
  | 0, h => by omega
  | m + 1, _ => by
    rw [nrA]
    by_cases hc : (nrA L m).2.2 < ((L.getD m 0).natAbs : Int)
    · rw [if_pos hc]
    · rw [if_neg hc]
      cases m with
      | zero => exact absurd (show (nrA L 0).2.2 < _ by show (-1 : Int) < _; omega) hc
      | succ m => exact nrA_at L (m + 1) (by omega)

/-- At how many places below m a table differs from a sum of inputs. -/
def dfF (f : Nat → Bool) (a : Nat) (e : Bool) : Nat → Nat
  | 0 => 0
  | m + 1 => dfF f a e m + (if f m != xor (par6 (a &&& m)) e then 1 else 0)
theorem dfF_le (f : Nat → Bool) (a : Nat) (e : Bool) : ∀ m, dfF f a e m ≤ m
  | 0 => Nat.le_refl _
  | m + 1 => by have := dfF_le f a e m; simp only [dfF]; split <;> omega
theorem dfF_sum (f : Nat → Bool) (a : Nat) (e : Bool) : ∀ m, 2 * (dfF f a e m : Int) = m - (if e then -1 else 1) * csum (spS a) (fun x => sgV (f x)) m
  | 0 => by cases e <;> rfl
  | m + 1 => by
    have h := dfF_sum f a e m
    have h1 : csum (spS a) (fun x => sgV (f x)) (m + 1) = csum (spS a) (fun x => sgV (f x)) m + spS a m * sgV (f m) := rfl
    have h2 : dfF f a e (m + 1) = dfF f a e m + (if f m != xor (par6 (a &&& m)) e then 1 else 0) := rfl
    have h3 : spS a m = if par6 (a &&& m) then -1 else 1 := rfl
    have h4 : sgV (f m) = if f m then -1 else 1 := rfl
    rw [h1, h2, h3, h4]
    clear h1 h2 h3 h4
    generalize csum (spS a) (fun x => sgV (f x)) m = S at h ⊢
    generalize dfF f a e m = d at h ⊢
    cases e <;> cases f m <;> cases par6 (a &&& m) <;> simp at h ⊢ <;> omega

/-- The nearest sum is as far as is said, and no sum is nearer. -/
theorem near_own {n : Nat} {W M D : Int} {e : Bool} (hM : M = (W.natAbs : Int)) (he : e = decide (W < 0)) (hD : 2 * D = n - (if e then -1 else 1) * W) : (n - M) / 2 = D := by
  subst hM he
  by_cases h : W < 0
  · simp [h] at hD; omega
  · simp [h] at hD; omega
theorem near_other {n : Nat} {W M D : Int} {e : Bool} (hM : (W.natAbs : Int) ≤ M) (hD : 2 * D = n - (if e then -1 else 1) * W) : (n - M) / 2 ≤ D := by
  cases e
  · simp at hD; omega
  · simp at hD; omega

theorem imF_le (L : List Int) (b0 : Nat) : ∀ m, imF L b0 m ≤ b0
  | 0 => Nat.le_refl _
  | m + 1 => by
    have := imF_le L b0 m
    rw [imF]; split <;> omega
theorem imF_lb (L : List Int) (b0 : Nat) : ∀ m a : Nat, 0 < a → a < m → L.getD a 0 ≠ 0 → imF L b0 m ≤ pop6 a
  | 0, a, _, h, _ => by omega
  | m + 1, a, h0, h, hz => by
    rw [imF]
    by_cases e : a = m
    · subst e; rw [if_pos ⟨h0, hz⟩]; omega
    · have := imF_lb L b0 m a h0 (by omega) hz
      split <;> omega
/-- Whether a place below m has the weight b and a number that is not 0. -/
def smF (L : List Int) (b : Nat) : Nat → Bool
  | 0 => false
  | m + 1 => smF L b m || (decide (0 < m) && (pop6 m == b && !decide (L.getD m 0 = 0)))
theorem imF_hit (L : List Int) (b0 : Nat) : ∀ m, imF L b0 m < b0 → ∃ a, 0 < a ∧ a < m ∧ L.getD a 0 ≠ 0 ∧ pop6 a = imF L b0 m
  | 0, h => by rw [imF] at h; omega
  | m + 1, h => by
    rw [imF] at h ⊢
    by_cases hc : 0 < m ∧ L.getD m 0 ≠ 0
    · rw [if_pos hc] at h ⊢
      by_cases hl : pop6 m ≤ imF L b0 m
      · exact ⟨m, hc.1, by omega, hc.2, by omega⟩
      · obtain ⟨a, h1, h2, h3, h4⟩ := imF_hit L b0 m (by omega)
        exact ⟨a, h1, by omega, h3, by omega⟩
    · rw [if_neg hc] at h ⊢
      obtain ⟨a, h1, h2, h3, h4⟩ := imF_hit L b0 m h
      exact ⟨a, h1, by omega, h3, h4⟩
theorem smF_of (L : List Int) (b : Nat) : ∀ m a : Nat, 0 < a → a < m → L.getD a 0 ≠ 0 → pop6 a = b → smF L b m = true
  | 0, a, _, h, _, _ => by omega
  | m + 1, a, h0, h, hz, hp => by
    rw [smF]
    by_cases e : a = m
    · subst e
      have h1 : (decide (0 < a) && (pop6 a == b && !decide (L.getD a 0 = 0))) = true := by simp only [decide_eq_true h0, decide_eq_false hz, hp, beq_self_eq_true]; rfl
      rw [h1]; simp
    · rw [smF_of L b m a h0 (by omega) hz hp]; rfl
theorem imF_pos {L : List Int} {b0 : Nat} (hb : 1 ≤ b0) : ∀ m, m ≤ 64 → 1 ≤ imF L b0 m
  | 0, _ => hb
  | m + 1, h => by
    have := imF_pos (L := L) hb m (by omega)
    rw [imF]
    split
    · rename_i hc
      have : ∀ m, m < 64 → 0 < m → 1 ≤ pop6 m := by decide +kernel
      have := this m (by omega) hc.1
      omega
    · exact this

/-- How many places below m hold, and how many of those whose masked inputs are v. -/
def onF (f : Nat → Bool) : Nat → Nat
  | 0 => 0
  | m + 1 => onF f m + (if f m then 1 else 0)
def inF (f : Nat → Bool) (mask v : Nat) : Nat → Nat
  | 0 => 0
  | m + 1 => inF f mask v m + (if m &&& mask = v ∧ f m = true then 1 else 0)
theorem onF_le (f : Nat → Bool) : ∀ m, onF f m ≤ m
  | 0 => Nat.le_refl _
  | m + 1 => by have := onF_le f m; simp only [onF]; split <;> omega
theorem inF_le (f : Nat → Bool) (mask v : Nat) : ∀ m, inF f mask v m ≤ m
  | 0 => Nat.le_refl _
  | m + 1 => by have := inF_le f mask v m; simp only [inF]; split <;> omega
def cnF (mask v : Nat) : Nat → Nat
  | 0 => 0
  | m + 1 => cnF mask v m + (if m &&& mask = v then 1 else 0)
theorem onF_sum (f : Nat → Bool) : ∀ m : Nat, isum (fun x => sgV (f x)) m = m - 2 * (onF f m : Int)
  | 0 => rfl
  | m + 1 => by
    have h := onF_sum f m
    simp only [isum, onF]
    rw [h]
    have h4 : sgV (f m) = if f m then -1 else 1 := rfl
    rw [h4]
    generalize onF f m = d
    cases f m <;> simp <;> omega
theorem inF_sum (f : Nat → Bool) (mask v : Nat) : ∀ m : Nat, isum (fun x => if x &&& mask = v then sgV (f x) else 0) m = cnF mask v m - 2 * (inF f mask v m : Int)
  | 0 => rfl
  | m + 1 => by
    have h := inF_sum f mask v m
    simp only [isum, inF, cnF]
    rw [h]
    have h4 : sgV (f m) = if f m then -1 else 1 := rfl
    rw [h4]
    generalize inF f mask v m = d
    generalize cnF mask v m = c
    by_cases hc : m &&& mask = v
    · cases f m <;> simp [hc] <;> omega
    · simp [hc]
theorem cnF_all : ∀ k, k < 5 → ∀ mask, mask < 2 ^ k → ∀ v, v < 2 ^ k → v &&& mask = v → cnF mask v (2 ^ k) * 2 ^ pop6 mask = 2 ^ k := by decide +kernel
theorem immune_count (f : Nat → Bool) {k mask v : Nat} (hk : k < 5) (hm : mask < 2 ^ k) (hv : v < 2 ^ k) (hvm : v &&& mask = v) (hz : ∀ a, a < 2 ^ k → a ≠ 0 → (a &&& mask == a) = true → csum (spS a) (fun x => sgV (f x)) (2 ^ k) = 0) :
    inF f mask v (2 ^ k) * 2 ^ pop6 mask = onF f (2 ^ k) := by
  have h := immune (fun x => sgV (f x)) (by omega) hm hvm hz
  rw [inF_sum, onF_sum] at h
  have hc := cnF_all k hk mask hm v hv hvm
  generalize cnF mask v (2 ^ k) = C at h hc
  generalize inF f mask v (2 ^ k) = I at h ⊢
  generalize onF f (2 ^ k) = O at h ⊢
  generalize 2 ^ pop6 mask = P at h hc ⊢
  generalize 2 ^ k = n at h hc
  have hc' : (C : Int) * P = n := by exact_mod_cast hc
  have e : ((C : Int) - 2 * I) * P = C * P - 2 * (I * P) := by grind
  rw [e, hc'] at h
  have : (I : Int) * P = O := by omega
  exact_mod_cast this
theorem pop6_sub : ∀ a, a < 16 → ∀ mask, mask < 16 → (a &&& mask == a) = true → pop6 a ≤ pop6 mask := by decide +kernel

/-- The sum of the products that the normal form tells. -/
theorem nf_value (f g : Nat → Bool) {k x : Nat} (hk : k < 7) (hx : x < 2 ^ k) (hg : ∀ u, u < 2 ^ k → g u = nfB f u) : xsum (fun u => u &&& x == u) g (2 ^ k) = f x := by
  rw [← nfB_twice f g hk hx hg]
  unfold nfB
  have h64 := pow_le_64 k hk
  refine xsum_more (2 ^ k) (by omega) fun y h1 h2 => ?_
  cases h : (y &&& x == y) with
  | false => rfl
  | true => have := and_le_fact x (by omega) y (by omega) h; omega
end Go.Proofs.YtgfkaldndaepfaaDoor

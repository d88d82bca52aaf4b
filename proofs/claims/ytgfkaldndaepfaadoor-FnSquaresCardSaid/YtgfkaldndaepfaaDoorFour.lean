import Derived.Test.YtgfkaldndaepfaaDoorTabQ
/- Sums over all inputs: turned by a shift; the squares of the spectrum; the normal form of the normal form. Plain facts. No condition. -/
namespace Go.Proofs.YtgfkaldndaepfaaDoor
set_option linter.unusedVariables false

def isum (h : Nat → Int) : Nat → Int
  | 0 => 0
  | n + 1 => isum h n + h n
theorem isum_congr {h g : Nat → Int} : ∀ n, (∀ x, x < n → h x = g x) → isum h n = isum g n
  | 0, _ => rfl
  | n + 1, e => by simp only [isum]; rw [isum_congr n (fun x hx => e x (by omega)), e n (by omega)]
theorem isum_add (h g : Nat → Int) : ∀ n, isum (fun x => h x + g x) n = isum h n + isum g n
  | 0 => rfl
  | n + 1 => by simp only [isum]; rw [isum_add h g n]; omega
theorem isum_mul (c : Int) (h : Nat → Int) : ∀ n, isum (fun x => c * h x) n = c * isum h n
  | 0 => by simp [isum]
  | n + 1 => by simp only [isum]; rw [isum_mul c h n, Int.mul_add]
theorem isum_neg (h : Nat → Int) : ∀ n, isum (fun x => -(h x)) n = -(isum h n)
  | 0 => rfl
  | n + 1 => by simp only [isum]; rw [isum_neg h n]; omega
theorem isum_const (c : Int) : ∀ n : Nat, isum (fun _ => c) n = n * c
  | 0 => by simp [isum]
  | n + 1 => by simp only [isum]; rw [isum_const c n]; grind
theorem isum_append (h : Nat → Int) (m : Nat) : ∀ n, isum h (m + n) = isum h m + isum (fun x => h (m + x)) n
  | 0 => by simp [isum]
  | n + 1 => by rw [← Nat.add_assoc]; simp only [isum]; rw [isum_append h m n]; omega
theorem isum_swap (h : Nat → Nat → Int) (m : Nat) : ∀ n, isum (fun x => isum (fun y => h x y) m) n = isum (fun y => isum (fun x => h x y) n) m
  | 0 => by simp only [isum]; rw [isum_const]; simp
  | n + 1 => by simp only [isum]; rw [isum_swap h m n, ← isum_add]
theorem csum_isum (c f : Nat → Int) : ∀ n, csum c f n = isum (fun x => c x * f x) n
  | 0 => rfl
  | n + 1 => by simp only [csum, isum]; rw [csum_isum c f n]
theorem xor_hi : ∀ k, k < 6 → ∀ a, a < 2 ^ k → ∀ m, m < 2 ^ k → (2 ^ k + a) ^^^ m = 2 ^ k + (a ^^^ m) ∧ a ^^^ (2 ^ k + m) = 2 ^ k + (a ^^^ m) ∧ (2 ^ k + a) ^^^ (2 ^ k + m) = a ^^^ m := by decide +kernel
/-- All inputs shifted are all inputs. -/
theorem isum_xor : ∀ (k : Nat) (h : Nat → Int) (m : Nat), k < 7 → m < 2 ^ k → isum (fun a => h (a ^^^ m)) (2 ^ k) = isum h (2 ^ k)
  | 0, h, m, _, hm => by
    have : m = 0 := by simp at hm; exact hm
    subst this
    simp
  | k + 1, h, m, hk, hm => by
    have e : 2 ^ (k + 1) = 2 ^ k + 2 ^ k := by rw [Nat.pow_succ]; omega
    rw [e, isum_append, isum_append h]
    by_cases hlt : m < 2 ^ k
    · rw [isum_xor k h m (by omega) hlt]
      congr 1
      rw [← isum_xor k (fun x => h (2 ^ k + x)) m (by omega) hlt]
      exact isum_congr _ fun x hx => by rw [(xor_hi k (by omega) x hx m hlt).1]
    · obtain ⟨m', rfl⟩ : ∃ m', m = 2 ^ k + m' := ⟨m - 2 ^ k, by omega⟩
      have hm' : m' < 2 ^ k := by omega
      rw [Int.add_comm (isum h (2 ^ k))]
      congr 1
      · rw [← isum_xor k (fun x => h (2 ^ k + x)) m' (by omega) hm']
        exact isum_congr _ fun x hx => by rw [(xor_hi k (by omega) x hx m' hm').2.1]
      · rw [← isum_xor k h m' (by omega) hm']
        exact isum_congr _ fun x hx => by rw [(xor_hi k (by omega) x hx m' hm').2.2]

/-- One stage of the spectrum. -/
def stgS (j : Nat) (g : Nat → Int) (a : Nat) : Int := if a.testBit j then g (a ^^^ 2 ^ j) - g a else g a + g (a ^^^ 2 ^ j)
theorem flip_bit : ∀ j, j < 6 → ∀ a, a < 64 → (a ^^^ 2 ^ j).testBit j = !a.testBit j ∧ (a ^^^ 2 ^ j) ^^^ 2 ^ j = a := by decide +kernel
theorem pow_lt_pow' {j k : Nat} (h : j < k) : 2 ^ j < 2 ^ k := Nat.pow_lt_pow_right (by omega) h
theorem stgS_sq {j k : Nat} (hj : j < k) (hk : k < 7) (g : Nat → Int) : isum (fun a => stgS j g a * stgS j g a) (2 ^ k) = 2 * isum (fun a => g a * g a) (2 ^ k) := by
  have h64 := pow_le_64 k hk
  have hp := pow_lt_pow' hj
  have e : ∀ a, stgS j g a * stgS j g a = g a * g a + (g (a ^^^ 2 ^ j) * g (a ^^^ 2 ^ j) + 2 * ((if a.testBit j then -1 else 1) * (g a * g (a ^^^ 2 ^ j)))) := by
    intro a
    unfold stgS
    split <;> grind
  rw [isum_congr _ (fun a _ => e a), isum_add, isum_add, isum_mul, isum_xor k (fun a => g a * g a) (2 ^ j) hk hp]
  have hx : isum (fun a => (if a.testBit j then -1 else 1) * (g a * g (a ^^^ 2 ^ j))) (2 ^ k) = 0 := by
    have h1 := isum_xor k (fun a => (if a.testBit j then -1 else 1) * (g a * g (a ^^^ 2 ^ j))) (2 ^ j) hk hp
    have h2 : isum (fun a => (if (a ^^^ 2 ^ j).testBit j then -1 else 1) * (g (a ^^^ 2 ^ j) * g ((a ^^^ 2 ^ j) ^^^ 2 ^ j))) (2 ^ k) = isum (fun a => -((if a.testBit j then -1 else 1) * (g a * g (a ^^^ 2 ^ j)))) (2 ^ k) := by
      refine isum_congr _ fun a ha => ?_
      obtain ⟨f1, f2⟩ := flip_bit j (by omega) a (by omega)
      rw [f1, f2]
      cases a.testBit j <;> simp <;> grind
    rw [h2, isum_neg] at h1
    omega
  rw [hx]
  omega
/-- The squares of the spectrum add up to 4 to the power of the inputs. -/
theorem parseval (f : Nat → Int) (hf : ∀ x, f x = 1 ∨ f x = -1) {k : Nat} (hk : k < 7) : isum (fun a => csum (spS a) f (2 ^ k) * csum (spS a) f (2 ^ k)) (2 ^ k) = (2 ^ k : Nat) * (2 ^ k : Nat) := by
  have h64 := pow_le_64 k hk
  have : ∀ j, j ≤ k → isum (fun a => spF f (2 ^ k) j a * spF f (2 ^ k) j a) (2 ^ k) = (2 ^ j : Nat) * (2 ^ k : Nat) := by
    intro j
    induction j with
    | zero =>
      intro _
      rw [isum_congr (g := fun _ => 1) _ (fun a ha => by
        rw [spF_zero f _ a ha]
        rcases hf a with h | h <;> rw [h] <;> rfl), isum_const]
      simp
    | succ j ih =>
      intro hj
      have h1 := stgS_sq (j := j) (k := k) hj hk (spF f (2 ^ k) j)
      rw [ih (by omega)] at h1
      rw [isum_congr (g := fun a => stgS j (spF f (2 ^ k) j) a * stgS j (spF f (2 ^ k) j) a) _ (fun a ha => by
        rw [sp_step f (2 ^ k) j a (by omega) (by omega) h64]; rfl), h1, Nat.pow_succ]
      push_cast
      grind
  rw [← this k (Nat.le_refl k)]
  exact isum_congr _ fun a ha => by rw [sp_end f hk ha]

/-- One stage of the normal form. -/
def stgN (j : Nat) (g : Nat → Bool) (u : Nat) : Bool := if u.testBit j then xor (g u) (g (u ^^^ 2 ^ j)) else g u
theorem stgN_twice {j u : Nat} (hj : j < 6) (hu : u < 64) (g : Nat → Bool) : stgN j (stgN j g) u = g u := by
  obtain ⟨f1, f2⟩ := flip_bit j hj u hu
  unfold stgN
  rw [f1, f2]
  cases u.testBit j with
  | true => simp
  | false => simp
theorem flip_two : ∀ i, i < 6 → ∀ j, j < 6 → i ≠ j → ∀ a, a < 64 → (a ^^^ 2 ^ j).testBit i = a.testBit i ∧ (a ^^^ 2 ^ j) ^^^ 2 ^ i = (a ^^^ 2 ^ i) ^^^ 2 ^ j := by decide +kernel
theorem stgN_comm {i j u : Nat} (hi : i < 6) (hj : j < 6) (hu : u < 64) (g : Nat → Bool) : stgN i (stgN j g) u = stgN j (stgN i g) u := by
  by_cases h : i = j
  · subst h; rfl
  · obtain ⟨a1, a2⟩ := flip_two i hi j hj h u hu
    obtain ⟨b1, b2⟩ := flip_two j hj i hi (fun e => h e.symm) u hu
    unfold stgN
    rw [a1, b1, a2]
    cases u.testBit i <;> cases u.testBit j <;> simp
    cases g u <;> cases g (u ^^^ 2 ^ i) <;> cases g (u ^^^ 2 ^ j) <;> cases g (u ^^^ 2 ^ i ^^^ 2 ^ j) <;> rfl
def stgs (g : Nat → Bool) : Nat → Nat → Bool
  | 0 => g
  | j + 1 => stgN j (stgs g j)
theorem stgN_congr {j k u : Nat} {g h : Nat → Bool} (hj : j < k) (hu : u < 2 ^ k) (e : ∀ x, x < 2 ^ k → g x = h x) : stgN j g u = stgN j h u := by
  unfold stgN
  rw [e u hu, e _ (Nat.xor_lt_two_pow hu (pow_lt_pow' hj))]
theorem stgs_congr {k : Nat} {g h : Nat → Bool} (e : ∀ x, x < 2 ^ k → g x = h x) : ∀ j, j ≤ k → ∀ u, u < 2 ^ k → stgs g j u = stgs h j u
  | 0, _, u, hu => e u hu
  | j + 1, hj, u, hu => by
    simp only [stgs]
    exact stgN_congr (show j < k by omega) hu fun x hx => stgs_congr e j (by omega) x hx
theorem stgs_comm {k i : Nat} (hk : k < 7) (hi : i < 6) (hik : i < k) (g : Nat → Bool) : ∀ j, j ≤ k → ∀ u, u < 2 ^ k → stgs (stgN i g) j u = stgN i (stgs g j) u
  | 0, _, u, hu => rfl
  | j + 1, hj, u, hu => by
    have h64 := pow_le_64 k hk
    simp only [stgs]
    rw [stgN_congr (show j < k by omega) hu fun x hx => stgs_comm hk hi hik g j (by omega) x hx]
    exact stgN_comm (by omega) hi (by omega) _
theorem stgs_twice {k : Nat} (hk : k < 7) (g : Nat → Bool) : ∀ j, j ≤ k → ∀ u, u < 2 ^ k → stgs (stgs g j) j u = g u
  | 0, _, u, hu => rfl
  | j + 1, hj, u, hu => by
    have h64 := pow_le_64 k hk
    simp only [stgs]
    rw [stgN_congr (show j < k by omega) hu fun x hx => stgs_comm hk (by omega) (show j < k by omega) (stgs g j) j (by omega) x hx]
    rw [stgN_twice (by omega) (by omega)]
    exact stgs_twice hk g j (by omega) u hu
theorem nfF_stgs (f : Nat → Bool) {k : Nat} (hk : k < 7) : ∀ j, j ≤ k → ∀ u, u < 2 ^ k → nfF f (2 ^ k) j u = stgs f j u
  | 0, _, u, hu => by
    unfold nfF stgs
    have : xsum (nfP 0 u) f (2 ^ k) = xsum (fun x => decide (x = u)) f (2 ^ k) := xsum_congr _ fun x hx => by
      unfold nfP
      by_cases h : x = u
      · subst h; simp
      · simp [h]
    rw [this]
    have h2 : ∀ n, u < n → xsum (fun x => decide (x = u)) f n = f u := by
      intro n
      induction n with
      | zero => intro h; omega
      | succ n ih =>
        intro h
        simp only [xsum]
        by_cases e : u = n
        · subst e
          have h3 : ∀ m, m ≤ u → xsum (fun x => decide (x = u)) f m = false := by
            intro m
            induction m with
            | zero => intro _; rfl
            | succ m ih2 =>
              intro hm
              simp only [xsum]
              rw [ih2 (by omega)]
              simp; intro e; omega
          rw [h3 u (Nat.le_refl u)]
          simp
        · rw [ih (by omega)]
          have : ¬ n = u := fun e' => e e'.symm
          simp [this]
    exact h2 _ hu
  | j + 1, hj, u, hu => by
    have h64 := pow_le_64 k hk
    rw [nf_step f (2 ^ k) j u (by omega) (by omega) h64]
    simp only [stgs]
    unfold stgN
    rw [nfF_stgs f hk j (by omega) u hu, nfF_stgs f hk j (by omega) _ (Nat.xor_lt_two_pow hu (pow_lt_pow' hj))]
/-- The normal form of the normal form is the table. -/
theorem nfB_twice (f g : Nat → Bool) {k u : Nat} (hk : k < 7) (hu : u < 2 ^ k) (hg : ∀ x, x < 2 ^ k → g x = nfB f x) : nfB g u = f u := by
  rw [← nf_end g hk hu, nfF_stgs g hk k (Nat.le_refl k) u hu]
  rw [stgs_congr (g := g) (h := stgs f k) (k := k) (fun x hx => by rw [hg x hx, ← nf_end f hk hx, nfF_stgs f hk k (Nat.le_refl k) x hx]) k (Nat.le_refl k) u hu]
  exact stgs_twice hk f k (Nat.le_refl k) u hu
end Go.Proofs.YtgfkaldndaepfaaDoor

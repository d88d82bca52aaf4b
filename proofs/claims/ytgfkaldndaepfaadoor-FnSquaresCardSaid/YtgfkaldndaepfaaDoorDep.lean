import Derived.Test.YtgfkaldndaepfaaDoorTabQ
/- Rows of bits that are dependent modulo 2: what row operations keep, and when rows in echelon form are not dependent. Plain facts. No condition. -/
namespace Go.Proofs.YtgfkaldndaepfaaDoor
set_option linter.unusedVariables false

theorem xsum_lin (c f g : Nat → Bool) : ∀ n, xsum c (fun i => xor (f i) (g i)) n = xor (xsum c f n) (xsum c g n)
  | 0 => rfl
  | n + 1 => by
    simp only [xsum]
    rw [xsum_lin c f g n]
    cases xsum c f n <;> cases xsum c g n <;> cases c n <;> cases f n <;> cases g n <;> rfl
theorem xsum_scale (c s : Nat → Bool) (b : Bool) : ∀ n, xsum c (fun i => s i && b) n = (xsum c s n && b)
  | 0 => rfl
  | n + 1 => by
    simp only [xsum]
    rw [xsum_scale c s b n]
    cases xsum c s n <;> cases c n <;> cases s n <;> cases b <;> rfl
theorem xsum_symm (c f : Nat → Bool) : ∀ n, xsum c f n = xsum f c n
  | 0 => rfl
  | n + 1 => by simp only [xsum]; rw [xsum_symm c f n, Bool.and_comm]
theorem xsum_congr_right {c f g : Nat → Bool} (n : Nat) (h : ∀ x, x < n → f x = g x) : xsum c f n = xsum c g n := by
  rw [xsum_symm c f, xsum_symm c g]
  exact xsum_congr n h
theorem xsum_no {c f : Nat → Bool} : ∀ n, (∀ x, x < n → (c x && f x) = false) → xsum c f n = false
  | 0, _ => rfl
  | n + 1, h => by simp only [xsum]; rw [xsum_no n (fun x hx => h x (by omega)), h n (by omega)]; rfl
/-- One place alone. -/
theorem xsum_at {c f : Nat → Bool} {r : Nat} : ∀ n, r < n → (∀ x, x < n → x ≠ r → (c x && f x) = false) → xsum c f n = (c r && f r)
  | 0, h, _ => by omega
  | n + 1, h, hz => by
    simp only [xsum]
    by_cases e : r = n
    · subst e
      rw [xsum_no r (fun x hx => hz x (by omega) (by omega))]
      simp
    · rw [xsum_at n (by omega) (fun x hx hne => hz x (by omega) hne), hz n (by omega) (fun e' => e e'.symm)]
      simp
theorem xsum_delta (f : Nat → Bool) {r n : Nat} (hr : r < n) (t : Bool) : xsum (fun i => decide (i = r) && t) f n = (t && f r) := by
  rw [xsum_at n hr (fun x hx hne => by simp [hne])]
  simp

/-- N rows of m bits are dependent: some of them, one at least, add up to 0. -/
def DepR (R : Nat → Nat → Bool) (N m : Nat) : Prop := ∃ c : Nat → Bool, (∃ i, i < N ∧ c i = true) ∧ ∀ x, x < m → xsum c (fun i => R i x) N = false
theorem DepR.congr {R R' : Nat → Nat → Bool} {N m : Nat} (h : ∀ i, i < N → ∀ x, x < m → R i x = R' i x) (hd : DepR R N m) : DepR R' N m := by
  obtain ⟨c, hc, hz⟩ := hd
  refine ⟨c, hc, fun x hx => ?_⟩
  rw [← hz x hx]
  exact xsum_congr_right N fun i hi => (h i hi x hx).symm
/-- Row r is added to the rows with S. -/
def addR (R : Nat → Nat → Bool) (S : Nat → Bool) (r : Nat) : Nat → Nat → Bool := fun i x => xor (R i x) (S i && R r x)
theorem dep_add_one {R : Nat → Nat → Bool} {S : Nat → Bool} {r N m : Nat} (hr : r < N) (hS : S r = false) (h : DepR (addR R S r) N m) : DepR R N m := by
  obtain ⟨c, ⟨i, hi, hci⟩, hz⟩ := h
  refine ⟨fun j => xor (c j) (decide (j = r) && xsum c S N), ?_, fun x hx => ?_⟩
  · by_cases hex : ∃ j, j < N ∧ j ≠ r ∧ c j = true
    · obtain ⟨j, hj, hjr, hcj⟩ := hex
      exact ⟨j, hj, by simp [hjr, hcj]⟩
    · have hno : ∀ j, j < N → j ≠ r → c j = false := fun j hj hjr => by
        cases hcj : c j with
        | false => rfl
        | true => exact absurd ⟨j, hj, hjr, hcj⟩ hex
      have hir : i = r := by
        rcases Nat.decEq i r with h | h
        · have := hno i hi h; rw [hci] at this; cases this
        · exact h
      subst hir
      refine ⟨i, hi, ?_⟩
      have : xsum c S N = false := by
        rw [xsum_at N hi (fun x hx hne => by rw [hno x hx hne]; rfl), hS]
        simp
      simp [this, hci]
  · have h1 := hz x hx
    unfold addR at h1
    rw [xsum_lin, xsum_scale] at h1
    rw [xsum_symm, xsum_lin, xsum_symm _ c, xsum_symm _ (fun j => decide (j = r) && xsum c S N), xsum_delta _ hr]
    exact h1
theorem addR_addR {R : Nat → Nat → Bool} {S : Nat → Bool} {r : Nat} (hS : S r = false) : addR (addR R S r) S r = R := by
  funext i x
  unfold addR
  rw [hS]
  cases R i x <;> cases S i <;> cases R r x <;> rfl
theorem dep_add {R : Nat → Nat → Bool} {S : Nat → Bool} {r N m : Nat} (hr : r < N) (hS : S r = false) : DepR (addR R S r) N m ↔ DepR R N m :=
  ⟨dep_add_one hr hS, fun h => dep_add_one hr hS (by rw [addR_addR hS]; exact h)⟩
/-- Two rows change places. -/
def sw (i j : Nat) (x : Nat) : Nat := if x = i then j else if x = j then i else x
theorem sw_lt {i j x N : Nat} (hi : i < N) (hj : j < N) (hx : x < N) : sw i j x < N := by unfold sw; split; · exact hj
                                                                                          · split <;> omega
theorem sw_sw (i j x : Nat) : sw i j (sw i j x) = x := by
  unfold sw
  by_cases h1 : x = i <;> by_cases h2 : x = j <;> by_cases h3 : j = i <;> simp_all
theorem xsum_sw (g : Nat → Bool) {i j N : Nat} (hi : i < N) (hj : j < N) : xsum (fun _ => true) (fun x => g (sw i j x)) N = xsum (fun _ => true) g N := by
  have e : (fun x => g (sw i j x)) = fun x => xor (xor (g x) (decide (x = i) && xor (g i) (g j))) (decide (x = j) && xor (g i) (g j)) := by
    funext x
    unfold sw
    by_cases h1 : x = i
    · subst h1
      by_cases h2 : x = j
      · subst h2; simp
      · simp [h2]
    · by_cases h2 : x = j
      · subst h2; simp [h1]; cases g x <;> cases g i <;> rfl
      · simp [h1, h2]
  rw [e, xsum_lin, xsum_lin, xsum_symm _ (fun x => decide (x = i) && xor (g i) (g j)), xsum_delta _ hi, xsum_symm _ (fun x => decide (x = j) && xor (g i) (g j)), xsum_delta _ hj]
  cases xsum (fun _ => true) g N <;> cases xor (g i) (g j) <;> rfl
theorem xsum_true (c f : Nat → Bool) : ∀ n, xsum c f n = xsum (fun _ => true) (fun x => c x && f x) n
  | 0 => rfl
  | n + 1 => by simp only [xsum]; rw [xsum_true c f n]; simp
theorem dep_sw_one {R : Nat → Nat → Bool} {i j N m : Nat} (hi : i < N) (hj : j < N) (h : DepR (fun k => R (sw i j k)) N m) : DepR R N m := by
  obtain ⟨c, ⟨k, hk, hck⟩, hz⟩ := h
  refine ⟨fun x => c (sw i j x), ⟨sw i j k, sw_lt hi hj hk, by simp only [sw_sw]; exact hck⟩, fun x hx => ?_⟩
  have h1 := hz x hx
  rw [xsum_true] at h1 ⊢
  rw [← xsum_sw (fun y => c (sw i j y) && R y x) hi hj]
  simp only [sw_sw]
  exact h1
theorem dep_sw {R : Nat → Nat → Bool} {i j N m : Nat} (hi : i < N) (hj : j < N) : DepR (fun k => R (sw i j k)) N m ↔ DepR R N m :=
  ⟨dep_sw_one hi hj, fun h => dep_sw_one hi hj (by simp only [sw_sw]; exact h)⟩
/-- A row of zeros. -/
theorem dep_zero {R : Nat → Nat → Bool} {t N m : Nat} (ht : t < N) (h : ∀ x, x < m → R t x = false) : DepR R N m :=
  ⟨fun i => decide (i = t), ⟨t, ht, by simp⟩, fun x hx => by
    rw [xsum_at N ht (fun y hy hne => by simp [hne]), h x hx]
    simp⟩
/-- Rows with pivots, each 0 in the pivots of the rows before it. -/
theorem indep_below {R : Nat → Nat → Bool} {N m : Nat} (p : Nat → Nat) (hp : ∀ i, i < N → p i < m ∧ R i (p i) = true) (hz : ∀ i j, i < j → j < N → R j (p i) = false) : ¬ DepR R N m := by
  rintro ⟨c, ⟨k, hk, hck⟩, hc⟩
  have : ∀ i, i ≤ N → ∀ j, j < i → c j = false := by
    intro i
    induction i with
    | zero => intro _ j hj; omega
    | succ i ih =>
      intro hi j hj
      by_cases h : j = i
      · subst h
        have h1 := hc (p j) (hp j (by omega)).1
        rw [xsum_at N (show j < N by omega) (fun x hx hne => by
          rcases Nat.lt_or_ge x j with h2 | h2
          · rw [ih (by omega) x h2]; rfl
          · rw [hz j x (by omega) hx]; simp), (hp j (by omega)).2] at h1
        simpa using h1
      · exact ih (by omega) j (by omega)
  have := this N (Nat.le_refl N) k hk
  rw [hck] at this
  cases this
/-- Rows with pivots that all differ, each 0 above its own pivot. -/
theorem indep_lead {R : Nat → Nat → Bool} {N m : Nat} (p : Nat → Nat) (hp : ∀ i, i < N → p i < m ∧ R i (p i) = true) (hd : ∀ i j, i < N → j < N → p i = p j → i = j) (hz : ∀ i, i < N → ∀ x, p i < x → x < m → R i x = false) : ¬ DepR R N m := by
  rintro ⟨c, ⟨k, hk, hck⟩, hc⟩
  have : ∀ q, q ≤ m → ∀ i, i < N → m - q ≤ p i → c i = false := by
    intro q
    induction q with
    | zero => intro _ i hi hpi; have := (hp i hi).1; omega
    | succ q ih =>
      intro hq i hi hpi
      by_cases h : m - q ≤ p i
      · exact ih (by omega) i hi h
      · have h1 := hc (p i) (hp i hi).1
        rw [xsum_at N hi (fun x hx hne => by
          by_cases h2 : m - q ≤ p x
          · rw [ih (by omega) x hx h2]; rfl
          · have hne2 : p x ≠ p i := fun e => hne (hd x i hx hi e)
            by_cases h3 : p x < p i
            · rw [hz x hx (p i) h3 (hp i hi).1]; simp
            · have := (hp i hi).1
              omega), (hp i hi).2] at h1
        simpa using h1
  have := this m (Nat.le_refl m) k hk (by omega)
  rw [hck] at this
  cases this
end Go.Proofs.YtgfkaldndaepfaaDoor

import Derived.Test.YtpineiocjaajnaaVecQ
/- The shortest point: what the reference tries. Plain facts. No condition. -/
namespace Go.Proofs.Ytpineiocjaajnaa
set_option linter.unusedVariables false

/-- The powers of the factor. -/
def pwM (a m : Int) : Nat → Int
  | 0 => 1
  | k + 1 => pwM a m k * a % m
theorem pwM_bd {a m : Int} (hm : 1 < m) : ∀ k, 0 ≤ pwM a m k ∧ pwM a m k < m
  | 0 => by simp [pwM]; omega
  | k + 1 => ⟨Int.emod_nonneg _ (by omega), Int.emod_lt_of_pos _ (by omega)⟩
/-- The elements that are tried at a place. -/
def rTwo (a m x : Int) (k : Nat) : List Int := if x = 0 then [0, -m, m] else twoM (pwM a m k * x) m
def rNext (L : List (List Int)) (two : List Int) : List (List Int) := L.flatMap fun l => two.map fun y => l ++ [y]
/-- The lists that are tried, the first element and k further ones. -/
def rL (a m x : Int) : Nat → List (List Int)
  | 0 => [[x]]
  | k + 1 => rNext (rL a m x k) (rTwo a m x (k + 1))
theorem mem_rNext {L : List (List Int)} {two v : List Int} : v ∈ rNext L two ↔ ∃ l ∈ L, ∃ y ∈ two, v = l ++ [y] := by
  unfold rNext
  simp only [List.mem_flatMap, List.mem_map]
  constructor
  · rintro ⟨l, hl, y, hy, rfl⟩; exact ⟨l, hl, y, hy, rfl⟩
  · rintro ⟨l, hl, y, hy, rfl⟩; exact ⟨l, hl, y, hy, rfl⟩
theorem rTwo_mod {a m x z : Int} {k : Nat} (h : z ∈ rTwo a m x k) : (z - pwM a m k * x) % m = 0 := by
  unfold rTwo at h
  split at h
  · rename_i e
    subst e
    rw [Int.mul_zero, Int.sub_zero]
    simp only [List.mem_cons, List.not_mem_nil, or_false] at h
    rcases h with rfl | rfl | rfl
    · rfl
    · rw [Int.neg_emod_self]
    · exact Int.emod_self
  · exact twoM_mod h
/-- The last element and the first one. -/
theorem mod_step {a m x u z : Int} {k : Nat} (h1 : (u - pwM a m k * x) % m = 0) (h2 : (z - pwM a m (k + 1) * x) % m = 0) : (z - a * u) % m = 0 := by
  have e1 := Int.dvd_of_emod_eq_zero h1
  have e2 := Int.dvd_of_emod_eq_zero h2
  have e3 : m ∣ pwM a m k * a - pwM a m (k + 1) := by
    rw [pwM]
    have := Int.emod_add_mul_ediv (pwM a m k * a) m
    exact ⟨pwM a m k * a / m, by omega⟩
  apply Int.emod_eq_zero_of_dvd
  have e4 : z - a * u = (z - pwM a m (k + 1) * x) - a * (u - pwM a m k * x) - (pwM a m k * a - pwM a m (k + 1)) * x := by
    rw [Int.mul_sub, Int.sub_mul, Int.mul_comm (pwM a m k) a, Int.mul_assoc a]; omega
  rw [e4]
  exact Int.dvd_sub (Int.dvd_sub e2 (Int.dvd_trans e1 (Int.dvd_mul_left _ _))) (Int.dvd_trans e3 (Int.dvd_mul_right _ _))
theorem mod_back {a m x u z : Int} {k : Nat} (h1 : (u - pwM a m k * x) % m = 0) (h2 : (z - a * u) % m = 0) : (z - pwM a m (k + 1) * x) % m = 0 := by
  have e1 := Int.dvd_of_emod_eq_zero h1
  have e2 := Int.dvd_of_emod_eq_zero h2
  have e3 : m ∣ pwM a m k * a - pwM a m (k + 1) := by
    rw [pwM]
    have := Int.emod_add_mul_ediv (pwM a m k * a) m
    exact ⟨pwM a m k * a / m, by omega⟩
  apply Int.emod_eq_zero_of_dvd
  have e4 : z - pwM a m (k + 1) * x = (z - a * u) + a * (u - pwM a m k * x) + (pwM a m k * a - pwM a m (k + 1)) * x := by
    rw [Int.mul_sub, Int.sub_mul, Int.mul_comm (pwM a m k) a, Int.mul_assoc a]; omega
  rw [e4]
  exact Int.dvd_add (Int.dvd_add e2 (Int.dvd_trans e1 (Int.dvd_mul_left _ _))) (Int.dvd_trans e3 (Int.dvd_mul_right _ _))
/-- What a tried list is. -/
structure IsTry (a m x : Int) (k : Nat) (l : List Int) : Prop where
  len : l.length = k + 1
  pt : ptL a m l
  form : ∃ b u, l = b ++ [u] ∧ (u - pwM a m k * x) % m = 0
  head : ∃ t, l = x :: t
theorem rL_try {a m x : Int} : ∀ k, ∀ l ∈ rL a m x k, IsTry a m x k l
  | 0, l, h => by
    simp only [rL, List.mem_singleton] at h
    subst h
    exact ⟨rfl, ptL_one _ _ _, ⟨[], x, rfl, by simp [pwM]⟩, [], rfl⟩
  | k + 1, l, h => by
    obtain ⟨l0, h0, y, hy, rfl⟩ := mem_rNext.1 h
    obtain ⟨h1, h2, ⟨b, u, rfl, h3⟩, t, h4⟩ := rL_try k l0 h0
    have hy2 := rTwo_mod hy
    refine ⟨by simp only [List.length_append, List.length_cons, List.length_nil] at h1 ⊢; omega, ptL_push h2 (mod_step h3 hy2), ⟨b ++ [u], y, rfl, hy2⟩, t ++ [y], ?_⟩
    rw [h4]; rfl
theorem rTwo_best {a m x y : Int} {k : Nat} (hm : 0 < m) (h : (y - pwM a m k * x) % m = 0) : y ∈ rTwo a m x k ∨ ∃ z ∈ rTwo a m x k, z * z < y * y ∧ (x = 0 → z ≠ 0) := by
  unfold rTwo
  by_cases e : x = 0
  · subst e
    rw [if_pos rfl]
    rw [Int.mul_zero, Int.sub_zero] at h
    obtain ⟨q, rfl⟩ := Int.dvd_of_emod_eq_zero h
    by_cases h0 : q = 0
    · subst h0; left; simp
    by_cases h1 : q = 1
    · subst h1; left; simp
    by_cases h2 : q = -1
    · subst h2; left; simp
    · right
      refine ⟨m, by simp, sq_lt ?_, fun _ => by omega⟩
      rw [Int.natAbs_mul]
      have h3 : 2 ≤ q.natAbs := by omega
      have h4 : 0 < m.natAbs := by omega
      have : m.natAbs * 2 ≤ m.natAbs * q.natAbs := Nat.mul_le_mul_left _ h3
      omega
  · rw [if_neg e]
    rcases twoM_best hm h with h | h
    · exact Or.inl h
    · exact Or.inr ⟨_, twoM_near _ _, sq_lt h, fun h' => absurd h' e⟩
/-- For each beginning of a point there is a tried list that is the same or shorter. -/
theorem rL_best {a m x : Int} (hm : 0 < m) : ∀ k, ∀ v : List Int, v.length = k + 1 → ptL a m v → (∃ t, v = x :: t) →
    (∃ b u, v = b ++ [u] ∧ (u - pwM a m k * x) % m = 0) ∧ ∃ w ∈ rL a m x k, w = v ∨ (sqL w < sqL v ∧ 0 < sqL w)
  | 0, v, hl, hp, ⟨t, ht⟩ => by
    subst ht
    have : t = [] := List.eq_nil_of_length_eq_zero (by simpa using hl)
    subst this
    exact ⟨⟨[], x, rfl, by simp [pwM]⟩, [x], by simp [rL], Or.inl rfl⟩
  | k + 1, v, hl, hp, ⟨t, ht⟩ => by
    obtain ⟨v0, y, rfl⟩ : ∃ v0 y, v = v0 ++ [y] := by
      have hne : v ≠ [] := by intro h; rw [h] at hl; simp at hl
      exact ⟨v.dropLast, v.getLast hne, (List.dropLast_concat_getLast hne).symm⟩
    have hl0 : v0.length = k + 1 := by simpa using hl
    have hp0 : ptL a m v0 := ptL_init hp
    obtain ⟨t0, ht0⟩ : ∃ t0, v0 = x :: t0 := by
      cases v0 with
      | nil => simp at hl0
      | cons z v0 => simp only [List.cons_append, List.cons.injEq] at ht; exact ⟨v0, by rw [ht.1]⟩
    obtain ⟨⟨b, u, rfl, hu⟩, w, hw, hor⟩ := rL_best hm k v0 hl0 hp0 ⟨t0, ht0⟩
    have hy : (y - a * u) % m = 0 := ptL_at (b := b) (t := []) (by rwa [List.append_assoc] at hp)
    have hy2 := mod_back hu hy
    refine ⟨⟨b ++ [u], y, rfl, hy2⟩, ?_⟩
    rcases rTwo_best hm hy2 with h | ⟨z, hz, hlt, hz0⟩
    · refine ⟨w ++ [y], mem_rNext.2 ⟨w, hw, y, h, rfl⟩, ?_⟩
      rcases hor with rfl | ⟨h1, h2⟩
      · exact Or.inl rfl
      · right
        have := sq_nn y
        rw [sqL_push, sqL_push]
        exact ⟨by omega, by omega⟩
    · refine ⟨w ++ [z], mem_rNext.2 ⟨w, hw, z, hz, rfl⟩, Or.inr ?_⟩
      rw [sqL_push, sqL_push]
      have hw0 : sqL w ≤ sqL (b ++ [u]) := by rcases hor with rfl | h; exact Int.le_refl _; omega
      have hzz := sq_nn z
      have hs := sqL_nonneg w
      refine ⟨by omega, ?_⟩
      by_cases e : x = 0
      · have hz1 := hz0 e
        have : 0 < z * z := by
          have := sq_lt (x := 0) (y := z) (by simp; omega)
          omega
        omega
      · obtain ⟨t', rfl⟩ := (rL_try k w hw).head
        have h1 : 0 < x * x := by
          have := sq_lt (x := 0) (y := x) (by simp; omega)
          omega
        have h2 := sqL_nonneg t'
        simp only [sqL]; omega
where
  ptL_init {a m : Int} : ∀ {b : List Int} {y : Int}, ptL a m (b ++ [y]) → ptL a m b
    | [], y, h => trivial
    | x :: b, y, h => by
      refine ⟨fun z t e => ?_, ptL_init (b := b) h.2⟩
      subst e
      exact h.1 z (t ++ [y]) rfl
theorem ptL_neg {a m : Int} : ∀ {v : List Int}, ptL a m v → ptL a m (v.map (- ·))
  | [], h => trivial
  | x :: v, h => by
    refine ⟨fun y t e => ?_, ptL_neg (v := v) h.2⟩
    cases v with
    | nil => simp at e
    | cons z v =>
      simp only [List.map_cons, List.cons.injEq] at e
      have := h.1 z v rfl
      rw [← e.1]
      have e2 : -z - a * -x = -(z - a * x) := by rw [Int.mul_neg]; omega
      rw [e2]
      exact Int.emod_eq_zero_of_dvd (Int.dvd_neg.2 (Int.dvd_of_emod_eq_zero this))
theorem sgnL_pt {a m : Int} {v : List Int} (h : ptL a m v) : ptL a m (sgnL v) := by unfold sgnL; split; exact h; exact ptL_neg h
theorem zerL_sq : ∀ {v : List Int}, 0 < sqL v → zerL v = false
  | [], h => by simp [sqL] at h
  | x :: v, h => by
    by_cases e : x = 0
    · subst e
      have := zerL_sq (v := v) (by simpa [sqL] using h)
      simpa [zerL] using this
    · simp [zerL, e]
/-- A tried list, made positive, is a point. -/
theorem try_kind {a m x : Int} {k : Nat} {l : List Int} (h : l ∈ rL a m x k) (h0 : 0 < sqL l) : IsPt a m (k + 1) (sgnL l) := by
  have ht := rL_try k l h
  exact ⟨by rw [sgnL_len, ht.len], sgnL_pt ht.pt, sgnL_ok (zerL_sq h0)⟩
/-- If all tried lists are no better, then no point with the first element is. -/
theorem try_seen {a m x : Int} {k : Nat} {c : List Int} (hm : 0 < m) (hc : ∀ l ∈ rL a m x k, 0 < sqL l → geB c (sgnL l)) : Seen (IsPt a m (k + 1)) c [x] := fun t ht => by
  obtain ⟨_, w, hw, hor⟩ := rL_best hm k ([x] ++ t) ht.len ht.pt ⟨t, rfl⟩
  rcases hor with rfl | ⟨h1, h2⟩
  · have hz := posL_not_zero _ ht.pos
    have h0 : 0 < sqL ([x] ++ t) := by
      have := sqL_nonneg ([x] ++ t)
      rcases Int.lt_or_eq_of_le this with h | h
      · exact h
      · exact absurd (sq_zero _ h.symm) (by rw [hz]; simp)
    have := hc _ hw h0
    rwa [sgnL_pos ht.pos] at this
  · have := geB_sq (hc w hw h2)
    rw [sgnL_sq] at this
    exact btB_not (by omega)
where
  sq_zero : ∀ v : List Int, sqL v = 0 → zerL v = true
    | [], _ => rfl
    | x :: v, h => by
      simp only [sqL] at h
      have h1 := sq_nn x
      have h2 := sqL_nonneg v
      have h3 : x * x = 0 := by omega
      have h4 : x = 0 := by
        rcases Int.mul_eq_zero.1 h3 with h | h <;> exact h
      subst h4
      have := sq_zero v (by omega)
      simpa [zerL] using this
/-- The best one of two, the first one may be missing. -/
def bestR (c l : List Int) : List Int := if c = [] then sgnL l else if btB (sgnL l) c then sgnL l else c
/-- Keeping the best one of lists. -/
def bestT (c l : List Int) : List Int := if 0 < sqL l then bestR c l else c
theorem bestT_ge {c l : List Int} (hc : c ≠ []) : geB (bestT c l) c ∧ (0 < sqL l → geB (bestT c l) (sgnL l)) := by
  unfold bestT
  split
  · rename_i h
    unfold bestR
    rw [if_neg hc]
    cases hb : btB (sgnL l) c with
    | true => exact ⟨by simpa using geB_of_bt hb, fun _ => by simpa using geB_refl _⟩
    | false => exact ⟨by simpa using geB_refl _, fun _ => by simpa [geB] using hb⟩
  · rename_i h
    exact ⟨geB_refl _, fun h' => absurd h' h⟩
end Go.Proofs.Ytpineiocjaajnaa

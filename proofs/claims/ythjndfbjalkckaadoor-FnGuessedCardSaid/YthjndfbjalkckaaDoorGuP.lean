import Derived.Test.YthjndfbjalkckaaDoorRdS
/- Outputs of a congruence: the factors behind them, and the number that its modulus divides. No condition. -/
namespace Go.Proofs.YthjndfbjalkckaaDoor
open Go.RowKit
set_option linter.unusedVariables false

/-- A step of a congruence, and the states from one on. -/
def stS (m a c x : Int) : Int := (a * x + c) % m
def stN (m a c x : Int) : Nat → Int
  | 0 => x
  | k + 1 => stS m a c (stN m a c x k)
def stR (m a c x : Int) (n : Nat) : List Int := (List.range n).map fun k => stN m a c x (k + 1)
theorem stR_len (m a c x : Int) (n : Nat) : (stR m a c x n).length = n := by simp [stR]
theorem stR_at {m a c x : Int} {n k : Nat} (h : k < n) : (stR m a c x n).getD k 0 = stN m a c x (k + 1) := by simp [stR, List.getD, h]
theorem stR_succ (m a c x : Int) (n : Nat) : stR m a c x (n + 1) = stR m a c x n ++ [stN m a c x (n + 1)] := by simp [stR, List.range_succ]
theorem stS_bd {m : Int} (hm : 0 < m) (a c x : Int) : 0 ≤ stS m a c x ∧ stS m a c x < m := ⟨Int.emod_nonneg _ (by omega), Int.emod_lt_of_pos _ hm⟩
theorem stN_bd {m a c x : Int} (hm : 0 < m) (hx : 0 ≤ x ∧ x < m) : ∀ k, 0 ≤ stN m a c x k ∧ stN m a c x k < m
  | 0 => hx
  | k + 1 => stS_bd hm _ _ _
/-- Does a factor fit? -/
def dfL (o : List Int) (i : Nat) : Int := o.getD (i + 1) 0 - o.getD i 0
def fitK (m : Int) (o : List Int) (a : Int) (k : Nat) : Bool := (List.range k).all fun i => decide (m ∣ (a * dfL o i - dfL o (i + 1)))
theorem fitK_succ (m : Int) (o : List Int) (a : Int) (k : Nat) : fitK m o a (k + 1) = (fitK m o a k && decide (m ∣ (a * dfL o k - dfL o (k + 1)))) := by simp [fitK, List.range_succ]
theorem fitK_no {m : Int} {o : List Int} {a : Int} {k n : Nat} (h : fitK m o a k = false) (hk : k ≤ n) : fitK m o a n = false := by
  unfold fitK at *
  rw [List.all_eq_false] at *
  obtain ⟨i, hi, h2⟩ := h
  exact ⟨i, by simp at hi ⊢; omega, h2⟩
def fitB (m : Int) (o : List Int) (a : Int) : Bool := fitK m o a (o.length - 2)
def fcK (m : Int) (o : List Int) (k : Nat) : List Int := ((List.range k).map fun (j : Nat) => (j : Int)).filter (fitB m o)
theorem fcK_succ (m : Int) (o : List Int) (k : Nat) : fcK m o (k + 1) = fcK m o k ++ (if fitB m o (k : Int) then [(k : Int)] else []) := by
  simp only [fcK, List.range_succ, List.map_append, List.filter_append, List.map_cons, List.map_nil]
  cases h : fitB m o (k : Int) <;> simp [h]
theorem fcK_mono {m : Int} {o : List Int} {k n : Nat} (h : k ≤ n) : (fcK m o k).length ≤ (fcK m o n).length := by
  induction h with
  | refl => exact Nat.le_refl _
  | step _ ih => rw [fcK_succ, List.length_append]; omega
theorem fcK_mem {m : Int} {o : List Int} {k : Nat} {f : Int} (h : f ∈ fcK m o k) : 0 ≤ f ∧ f < (k : Int) ∧ fitB m o f = true := by
  simp only [fcK, List.mem_filter, List.mem_map, List.mem_range] at h
  obtain ⟨⟨j, hj, rfl⟩, h2⟩ := h
  exact ⟨by omega, by omega, h2⟩
theorem fcK_has {m : Int} {o : List Int} {k : Nat} {f : Int} (h0 : 0 ≤ f) (h1 : f < (k : Int)) (h2 : fitB m o f = true) : f ∈ fcK m o k := by
  simp only [fcK, List.mem_filter, List.mem_map, List.mem_range]
  exact ⟨⟨f.toNat, by omega, by omega⟩, h2⟩
/-- The factors, if there are at most 64. -/
def fcO (m : Int) (o : List Int) : Option (List Int) := if (fcK m o m.toNat).length ≤ 64 then some (fcK m o m.toNat) else none
/-- The number that the modulus divides. -/
def tqL (o : List Int) (i : Nat) : Int := dfL o (i + 2) * dfL o i - dfL o (i + 1) * dfL o (i + 1)
def gkL (o : List Int) : Nat → Nat
  | 0 => 0
  | k + 1 => Nat.gcd (gkL o k) (tqL o k).natAbs
theorem gkL_dvd {m : Int} {o : List Int} : ∀ k, (∀ i, i < k → m ∣ tqL o i) → m.natAbs ∣ gkL o k
  | 0, _ => Nat.dvd_zero _
  | k + 1, h => Nat.dvd_gcd (gkL_dvd k fun i hi => h i (by omega)) (Int.natAbs_dvd_natAbs.2 (h k (by omega)))
theorem df_at {m a c x : Int} {n i : Nat} (h : i + 1 < n) : dfL (stR m a c x n) i = stN m a c x (i + 2) - stN m a c x (i + 1) := by
  unfold dfL
  rw [stR_at h, stR_at (by omega)]
theorem st_mod (m a c x : Int) (k : Nat) : m ∣ (stN m a c x (k + 1) - (a * stN m a c x k + c)) := by
  show m ∣ ((a * stN m a c x k + c) % m - (a * stN m a c x k + c))
  exact ⟨-((a * stN m a c x k + c) / m), by
    have := Int.mul_ediv_add_emod (a * stN m a c x k + c) m
    rw [Int.mul_neg]; omega⟩
theorem df_mod {m a c x : Int} {n i : Nat} (h : i + 2 < n) : m ∣ (a * dfL (stR m a c x n) i - dfL (stR m a c x n) (i + 1)) := by
  rw [df_at (by omega), df_at h]
  have h1 := st_mod m a c x (i + 2)
  have h2 := st_mod m a c x (i + 1)
  have h3 := Int.dvd_sub h2 h1
  have e : stN m a c x (i + 1 + 1) - (a * stN m a c x (i + 1) + c) - (stN m a c x (i + 2 + 1) - (a * stN m a c x (i + 2) + c)) = a * (stN m a c x (i + 2) - stN m a c x (i + 1)) - (stN m a c x (i + 1 + 2) - stN m a c x (i + 1 + 1)) := by
    rw [Int.mul_sub, show i + 1 + 1 = i + 2 by omega, show i + 1 + 2 = i + 3 by omega, show i + 2 + 1 = i + 3 by omega]; omega
  rw [e] at h3
  exact h3
theorem fit_own {m a c x : Int} {n : Nat} : fitB m (stR m a c x n) a = true := by
  unfold fitB fitK
  rw [stR_len, List.all_eq_true]
  intro i hi
  rw [List.mem_range] at hi
  exact decide_eq_true (df_mod (by omega))
theorem tq_dvd {m a c x : Int} {n i : Nat} (h : i + 3 < n) : m ∣ tqL (stR m a c x n) i := by
  unfold tqL
  obtain ⟨p, hp⟩ := df_mod (m := m) (a := a) (c := c) (x := x) (n := n) (i := i) (by omega)
  obtain ⟨q, hq⟩ := df_mod (m := m) (a := a) (c := c) (x := x) (n := n) (i := i + 1) (by omega)
  obtain ⟨u, hu⟩ : ∃ u, dfL (stR m a c x n) i = u := ⟨_, rfl⟩
  obtain ⟨v, hv⟩ : ∃ u, dfL (stR m a c x n) (i + 1) = u := ⟨_, rfl⟩
  rw [hu, hv] at hp
  rw [hv] at hq
  rw [show i + 1 + 1 = i + 2 from rfl] at hq
  obtain ⟨z, hz⟩ : ∃ u, dfL (stR m a c x n) (i + 2) = u := ⟨_, rfl⟩
  rw [hz] at hq
  rw [hu, hv, hz]
  have e1 : z = a * v - m * q := by omega
  have e2 : v = a * u - m * p := by omega
  refine ⟨p * v - q * u, ?_⟩
  have e3 : z * u - v * v = (a * v - m * q) * u - (a * u - m * p) * v := by
    have : v * v = (a * u - m * p) * v := by rw [← e2]
    rw [← e1, this]
  rw [e3, Int.sub_mul, Int.sub_mul, Int.mul_sub, Int.mul_assoc a v u, Int.mul_assoc a u v, Int.mul_comm v u, Int.mul_assoc m q u, Int.mul_assoc m p v]
  omega
theorem gk_own {m a c x : Int} {n : Nat} (hm : 0 < m) : m.natAbs ∣ gkL (stR m a c x n) (n - 3) := gkL_dvd _ fun i hi => tq_dvd (by omega)
/-- What the law adds to a factor. -/
def adV (m f : Int) (o : List Int) : Int := (o.getD 1 0 - f * o.getD 0 0) % m
theorem fit_dvd {m f : Int} {o : List Int} (h : fitB m o f = true) {i : Nat} (hi : i + 2 < o.length) : m ∣ (f * dfL o i - dfL o (i + 1)) := by
  unfold fitB fitK at h
  rw [List.all_eq_true] at h
  exact of_decide_eq_true (h i (by rw [List.mem_range]; omega))
theorem eq_of_mod {m x y : Int} (hx : 0 ≤ x ∧ x < m) (hy : 0 ≤ y ∧ y < m) (h : m ∣ (x - y)) : x = y := by
  have h1 := Int.emod_emod_of_dvd
  have h2 : x % m = y % m := Int.emod_eq_emod_iff_emod_sub_eq_zero.2 (Int.emod_eq_zero_of_dvd h)
  rw [Int.emod_eq_of_lt hx.1 hx.2, Int.emod_eq_of_lt hy.1 hy.2] at h2
  exact h2
/-- A factor that fits makes the outputs. -/
theorem fit_makes {m f : Int} {o : List Int} (hm : 0 < m) (h : fitB m o f = true) (hb : ∀ j, j < o.length → 0 ≤ o.getD j 0 ∧ o.getD j 0 < m) :
    ∀ k, k < o.length → stN m f (adV m f o) (o.getD 0 0) k = o.getD k 0 ∧ (k + 1 < o.length → m ∣ (o.getD (k + 1) 0 - (f * o.getD k 0 + adV m f o)))
  | 0, hk => by
    refine ⟨rfl, fun _ => ?_⟩
    unfold adV
    refine ⟨(o.getD 1 0 - f * o.getD 0 0) / m, ?_⟩
    have := Int.mul_ediv_add_emod (o.getD 1 0 - f * o.getD 0 0) m
    rw [Nat.zero_add]
    omega
  | k + 1, hk => by
    obtain ⟨h1, h2⟩ := fit_makes hm h hb k (by omega)
    have h3 := h2 hk
    have e1 : stN m f (adV m f o) (o.getD 0 0) (k + 1) = o.getD (k + 1) 0 := by
      show stS m f (adV m f o) (stN m f (adV m f o) (o.getD 0 0) k) = _
      rw [h1]
      refine eq_of_mod (stS_bd hm _ _ _) (hb _ hk) ?_
      have h4 : m ∣ (stS m f (adV m f o) (o.getD k 0) - (f * o.getD k 0 + adV m f o)) := by
        have := st_mod m f (adV m f o) (o.getD k 0) 0
        exact this
      have h5 := Int.dvd_sub h4 h3
      have e : stS m f (adV m f o) (o.getD k 0) - (f * o.getD k 0 + adV m f o) - (o.getD (k + 1) 0 - (f * o.getD k 0 + adV m f o)) = stS m f (adV m f o) (o.getD k 0) - o.getD (k + 1) 0 := by omega
      rw [e] at h5
      exact h5
    refine ⟨e1, fun h6 => ?_⟩
    have h7 := fit_dvd h (i := k) (by omega)
    unfold dfL at h7
    have h8 := Int.dvd_sub h3 h7
    have e : o.getD (k + 1) 0 - (f * o.getD k 0 + adV m f o) - (f * (o.getD (k + 1) 0 - o.getD k 0) - (o.getD (k + 1 + 1) 0 - o.getD (k + 1) 0)) = o.getD (k + 1 + 1) 0 - (f * o.getD (k + 1) 0 + adV m f o) := by
      rw [Int.mul_sub]; omega
    rw [e] at h8
    exact h8
/-- The congruence's text is read back. -/
theorem itoa_no44 {n : Int} (h : n.natAbs < 10 ^ 19) : ∀ c ∈ Lib.itoa n, c ≠ 44 := by
  obtain ⟨dg, he, _, hd, _, _⟩ := itoa_form n h
  have h1 : ∀ c ∈ dg, c ≠ 44 := fun c hc e => by
    have := isDg_iff.1 (hd c hc)
    rw [e] at this
    exact absurd this (by decide)
  rw [he]
  intro c hc
  split at hc
  · rcases List.mem_cons.1 hc with rfl | hc
    · decide
    · exact h1 c hc
  · exact h1 c hc
theorem spA_skip : ∀ (l : List UInt8) (cur r : List UInt8), (∀ c ∈ l, c ≠ 44) → spA cur (l ++ r) = spA (cur ++ l) r
  | [], cur, r, _ => by simp
  | c :: l, cur, r, h => by
    rw [List.cons_append, spA, if_neg (h c List.mem_cons_self), spA_skip l _ r (fun x hx => h x (List.mem_cons_of_mem _ hx))]
    simp
theorem numsL_join {m a c : Int} (hm : m.natAbs ≤ 10 ^ 15) (ha : a.natAbs ≤ 10 ^ 15) (hc : c.natAbs ≤ 10 ^ 15) : numsL (jnB [itB m, itB a, itB c] { data := #[44] }).data.toList = some [m, a, c] := by
  have e : (jnB [itB m, itB a, itB c] { data := #[44] }).data.toList = Lib.itoa m ++ 44 :: (Lib.itoa a ++ 44 :: (Lib.itoa c ++ [])) := by
    unfold jnB
    simp [Lib.join, itB]
  have hn : (jnB [itB m, itB a, itB c] { data := #[44] }).data.toList ≠ noneT := by
    intro h
    have h1 : (44 : UInt8) ∈ noneT := by rw [← h, e]; simp
    exact absurd h1 (by decide)
  unfold numsL
  rw [if_neg hn, e, spA_skip _ _ _ (itoa_no44 (by omega)), spA, if_pos rfl, spA_skip _ _ _ (itoa_no44 (by omega)), spA, if_pos rfl, spA_skip _ _ _ (itoa_no44 (by omega)), spA]
  simp only [List.nil_append]
  rw [goV_push (rdL_of hm) (by simp), goV_push (rdL_of ha) (by simp), goV_push (rdL_of hc) (by simp)]
  rfl
theorem rcV_join {m a c : Int} (h : cgOk m a c = true) : rcV (numsL (jnB [itB m, itB a, itB c] { data := #[44] }).data.toList) = cgA m a c true := by
  have hb := cg_bd h
  rw [numsL_join (by omega) (by omega) (by omega)]
  show (if [m, a, c].length = 3 then (if cgOk m a c then cgA m a c true else cgA 0 0 0 false) else cgA 0 0 0 false) = _
  rw [if_pos (show [m, a, c].length = 3 from rfl), if_pos h]
end Go.Proofs.YthjndfbjalkckaaDoor

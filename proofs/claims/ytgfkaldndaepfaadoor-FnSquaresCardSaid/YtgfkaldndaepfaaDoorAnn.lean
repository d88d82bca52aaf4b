import Derived.Test.YtgfkaldndaepfaaDoorDep
import Derived.Test.YtgfkaldndaepfaaDoorFour
/- Annihilators of tables: when rows of products of inputs are dependent, and that at half of the inputs they are. Plain facts. No condition. -/
namespace Go.Proofs.YtgfkaldndaepfaaDoor
set_option linter.unusedVariables false

def cnt (S : Nat → Bool) : Nat → Nat
  | 0 => 0
  | n + 1 => cnt S n + (S n).toNat
theorem dep_last {R : Nat → Nat → Bool} {N m : Nat} (h : DepR R N m) : DepR R (N + 1) m := by
  obtain ⟨c, ⟨i, hi, hci⟩, hz⟩ := h
  refine ⟨fun j => decide (j < N) && c j, ⟨i, by omega, by simp [hi, hci]⟩, fun x hx => ?_⟩
  simp only [xsum]
  have e : (decide (N < N) && c N && R N x) = false := by simp
  rw [e, xsum_congr (q := c) N (fun y hy => by simp [hy]), hz x hx]
  rfl
/-- More rows than columns that are not 0. -/
theorem dep_of_many : ∀ (m N : Nat) (R : Nat → Nat → Bool) (S : Nat → Bool), (∀ i, i < N → ∀ x, x < m → R i x = true → S x = true) → cnt S m < N → DepR R N m
  | 0, N, R, S, _, h => ⟨fun _ => true, ⟨0, by omega, rfl⟩, fun x hx => by omega⟩
  | m + 1, N, R, S, hS, h => by
    simp only [cnt] at h
    by_cases hc : ∃ r, r < N ∧ R r m = true
    · obtain ⟨r, hr, hrm⟩ := hc
      have hSm : S m = true := hS r hr m (by omega) hrm
      rw [hSm, Bool.toNat_true] at h
      obtain ⟨M, rfl⟩ : ∃ M, N = M + 1 := ⟨N - 1, by omega⟩
      rw [← dep_sw (i := r) (j := M) hr (by omega)]
      have hlast : (fun k => R (sw r M k)) M m = true := by
        have : sw r M M = r := by
          unfold sw
          split
          · omega
          · simp
        simp only [this]
        exact hrm
      have hS' : ∀ i, i < M + 1 → ∀ x, x < m + 1 → (fun k => R (sw r M k)) i x = true → S x = true := fun i hi x hx hx2 => hS _ (sw_lt hr (by omega) hi) x hx hx2
      generalize (fun k => R (sw r M k)) = R' at hlast hS'
      rw [← dep_add (R := R') (S := fun i => decide (i < M) && R' i m) (r := M) (by omega) (by simp)]
      have hA : ∀ i, i < M → addR R' (fun i => decide (i < M) && R' i m) M i m = false := fun i hi => by
        unfold addR
        rw [hlast]
        simp [hi]
      have hAS : ∀ i, i < M → ∀ x, x < m → addR R' (fun i => decide (i < M) && R' i m) M i x = true → S x = true := fun i hi x hx hx2 => by
        unfold addR at hx2
        cases h1 : R' i x with
        | true => exact hS' i (by omega) x (by omega) h1
        | false =>
          cases h2 : R' M x with
          | true => exact hS' M (by omega) x (by omega) h2
          | false => rw [h1, h2] at hx2; simp at hx2
      generalize addR R' (fun i => decide (i < M) && R' i m) M = Q at hA hAS
      have ih := dep_of_many m M Q S hAS (by omega)
      refine dep_last ?_
      obtain ⟨c, hcc, hz⟩ := ih
      refine ⟨c, hcc, fun x hx => ?_⟩
      by_cases hxm : x = m
      · subst hxm
        exact xsum_no M fun i hi => by rw [hA i hi]; simp
      · exact hz x (by omega)
    · have hz : ∀ i, i < N → R i m = false := fun i hi => by
        cases h1 : R i m with
        | false => rfl
        | true => exact absurd ⟨i, hi, h1⟩ hc
      obtain ⟨c, hcc, hzz⟩ := dep_of_many m N R S (fun i hi x hx => hS i hi x (by omega)) (by omega)
      refine ⟨c, hcc, fun x hx => ?_⟩
      by_cases hxm : x = m
      · subst hxm
        exact xsum_no N fun i hi => by rw [hz i hi]; simp
      · exact hzz x (by omega)

/-- The products of at most d inputs. -/
def monos (k : Nat) (d : Int) : List Nat := (List.range (2 ^ k)).filter (fun u => decide ((pop6 u : Int) ≤ d))
def rowB (f : Nat → Bool) (v : Bool) (u x : Nat) : Bool := (f x == v) && (x &&& u == u)
/-- There is a function of at most degree d, not always 0, that is 0 wherever the table is v. -/
def Ann (f : Nat → Bool) (v : Bool) (k : Nat) (d : Int) : Prop := DepR (fun i x => rowB f v ((monos k d).getD i 0) x) (monos k d).length (2 ^ k)
theorem filter_succ (p : Nat → Bool) (n : Nat) : (List.range (n + 1)).filter p = (List.range n).filter p ++ (if p n then [n] else []) := by
  rw [List.range_succ, List.filter_append]
  congr 1
  cases h : p n <;> simp [h]
theorem len_filter (p : Nat → Bool) : ∀ n, ((List.range n).filter p).length = cnt p n
  | 0 => rfl
  | n + 1 => by
    rw [filter_succ, List.length_append, len_filter p n, cnt]
    cases p n <;> rfl
theorem xsum_filter (p g h : Nat → Bool) : ∀ n, xsum (fun i => g (((List.range n).filter p).getD i 0)) (fun i => h (((List.range n).filter p).getD i 0)) ((List.range n).filter p).length = xsum (fun u => p u && g u) h n
  | 0 => rfl
  | n + 1 => by
    simp only [xsum]
    rw [← xsum_filter p g h n, filter_succ]
    cases hp : p n with
    | false =>
      simp only [Bool.false_eq_true, if_false, List.append_nil, Bool.false_and, Bool.xor_false]
    | true =>
      simp only [if_true, List.length_append, List.length_singleton, xsum, Bool.true_and]
      have e : (((List.range n).filter p) ++ [n]).getD ((List.range n).filter p).length 0 = n := by simp [List.getD]
      rw [e]
      congr 1
      have hl : ∀ i, i < ((List.range n).filter p).length → (((List.range n).filter p) ++ [n]).getD i 0 = ((List.range n).filter p).getD i 0 := fun i hi => by simp [List.getD, List.getElem?_append_left hi]
      rw [xsum_congr (q := fun i => g (((List.range n).filter p).getD i 0)) _ (fun i hi => by rw [hl i hi])]
      exact xsum_congr_right _ fun i hi => by rw [hl i hi]
theorem mem_idx {l : List Nat} {u : Nat} (h : u ∈ l) : ∃ i, i < l.length ∧ l.getD i 0 = u := by
  obtain ⟨i, hi, e⟩ := List.mem_iff_getElem.1 h
  exact ⟨i, hi, by simp [List.getD, hi, e]⟩
theorem mem_monos {k u : Nat} {d : Int} : u ∈ monos k d ↔ u < 2 ^ k ∧ (pop6 u : Int) ≤ d := by simp [monos]
theorem ann_of {f c : Nat → Bool} {v : Bool} {k : Nat} {d : Int} (h1 : ∃ u, u < 2 ^ k ∧ c u = true) (h2 : ∀ u, u < 2 ^ k → c u = true → (pop6 u : Int) ≤ d) (h3 : ∀ x, x < 2 ^ k → xsum c (fun u => rowB f v u x) (2 ^ k) = false) : Ann f v k d := by
  obtain ⟨u, hu, hcu⟩ := h1
  obtain ⟨i, hi, he⟩ := mem_idx (mem_monos.2 ⟨hu, h2 u hu hcu⟩)
  refine ⟨fun i => c ((monos k d).getD i 0), ⟨i, hi, by simp only [he]; exact hcu⟩, fun x hx => ?_⟩
  rw [← h3 x hx]
  unfold monos
  rw [xsum_filter (fun u => decide ((pop6 u : Int) ≤ d)) c (fun u => rowB f v u x)]
  refine xsum_congr _ fun y hy => ?_
  cases hc : c y with
  | false => simp
  | true => simp [h2 y hy hc]
theorem cnt_two (f : Nat → Bool) : ∀ n, cnt (fun x => f x == false) n + cnt (fun x => f x == true) n = n
  | 0 => rfl
  | n + 1 => by
    have := cnt_two f n
    simp only [cnt]
    rcases Bool.eq_false_or_eq_true (f n) with h | h
    · rw [h]
      have e1 : (true == false).toNat = 0 := rfl
      have e2 : (true == true).toNat = 1 := rfl
      omega
    · rw [h]
      have e1 : (false == false).toNat = 1 := rfl
      have e2 : (false == true).toNat = 0 := rfl
      omega
theorem half_many : ∀ k : Nat, k < 7 → ∀ d : Nat, d < 7 → (k + 1) / 2 ≤ d → 2 ^ k < 2 * cnt (fun u => decide ((pop6 u : Int) ≤ (d : Int))) (2 ^ k) := by decide +kernel
/-- At half of the inputs, rounded up, one of both values has such a function. -/
theorem ann_half (f : Nat → Bool) {k : Nat} {d : Nat} (hk : k < 7) (hd : (k + 1) / 2 ≤ d) (hd7 : d < 7) : Ann f false k d ∨ Ann f true k d := by
  have h1 := half_many k hk d hd7 hd
  rw [← len_filter] at h1
  have h2 := cnt_two f (2 ^ k)
  have hm : ((List.range (2 ^ k)).filter (fun u => decide ((pop6 u : Int) ≤ (d : Int)))).length = (monos k d).length := rfl
  rw [hm] at h1
  by_cases h : cnt (fun x => f x == false) (2 ^ k) < (monos k d).length
  · left
    refine dep_of_many _ _ _ _ (fun i hi x hx hr => ?_) h
    simp only [rowB, Bool.and_eq_true] at hr
    exact hr.1
  · right
    refine dep_of_many _ _ _ (fun x => f x == true) (fun i hi x hx hr => ?_) (by omega)
    simp only [rowB, Bool.and_eq_true] at hr
    exact hr.1
/-- The table itself is 0 wherever it is 0. -/
theorem ann_own (f : Nat → Bool) {k : Nat} {d : Int} (hk : k < 7) (hd0 : 0 ≤ d) (hd : ∀ u, u < 2 ^ k → nfB f u = true → (pop6 u : Int) ≤ d) : Ann f false k d ∨ Ann f true k d := by
  by_cases h : ∃ u, u < 2 ^ k ∧ nfB f u = true
  · left
    refine ann_of h hd fun x hx => ?_
    have hb : nfB (fun u => nfB f u) x = f x := nfB_twice f _ hk hx (fun _ _ => rfl)
    have h64 := pow_le_64 k hk
    have e : xsum (fun u => nfB f u) (fun u => rowB f false u x) (2 ^ k) = ((f x == false) && nfB (fun u => nfB f u) x) := by
      have e1 : (fun u => rowB f false u x) = fun u => (x &&& u == u) && (f x == false) := by funext u; unfold rowB; rw [Bool.and_comm]
      rw [e1, xsum_scale, Bool.and_comm]
      congr 1
      unfold nfB
      rw [xsum_symm]
      rw [xsum_congr (q := fun u => u &&& x == u) (2 ^ k) (fun u _ => by rw [Nat.and_comm])]
      refine xsum_more (2 ^ k) (by omega) fun y h1 h2 => ?_
      cases hy : (y &&& x == y) with
      | false => rfl
      | true => have := and_le_fact x (by omega) y (by omega) hy; omega
    rw [e, hb]
    cases f x <;> rfl
  · right
    have hz : ∀ x, x < 2 ^ k → f x = false := fun x hx => by
      rw [← nfB_twice f (fun u => nfB f u) hk hx (fun _ _ => rfl)]
      unfold nfB
      refine xsum_no _ fun u hu => ?_
      cases h1 : (u &&& x == u) with
      | false => rfl
      | true =>
        cases h2 : nfB f u with
        | false => unfold nfB at h2; rw [h2]; rfl
        | true => exact absurd ⟨u, by omega, h2⟩ h
    refine ann_of (c := fun u => u == 0) ⟨0, Nat.two_pow_pos k, rfl⟩ (fun u _ hu => ?_) (fun x hx => ?_)
    · have : u = 0 := by simpa using hu
      subst this
      have : pop6 0 = 0 := by decide
      omega
    · refine xsum_no _ fun u hu => ?_
      unfold rowB
      rw [hz x hx]
      simp
end Go.Proofs.YtgfkaldndaepfaaDoor

import Derived.Test.YtpineiocjaajnaaVecP
/- The shortest point: what both searches keep. Plain facts. No condition. -/
namespace Go.Proofs.Ytpineiocjaajnaa
set_option linter.unusedVariables false

/-- The best list of a kind. -/
def BestOf (P : List Int → Prop) (c : List Int) : Prop := P c ∧ ∀ v, P v → geB c v
theorem BestOf.uniq {P : List Int → Prop} {D : Nat} {c c' : List Int} (hl : ∀ v, P v → v.length = D) (h : BestOf P c) (h' : BestOf P c') : c = c' :=
  geB_uniq (by rw [hl _ h.1, hl _ h'.1]) (h.2 _ h'.1) (h'.2 _ h.1)
/-- Every list of the kind that begins with some elements is no better. -/
def Seen (P : List Int → Prop) (c b : List Int) : Prop := ∀ t, P (b ++ t) → geB c (b ++ t)
theorem Seen.mono {P : List Int → Prop} {D : Nat} {c c2 b : List Int} (hl : ∀ v, P v → v.length = D) (h2 : c2.length = D) (h1 : c.length = D) (hg : geB c2 c) (h : Seen P c b) : Seen P c2 b :=
  fun t ht => geB_trans (by rw [h2, h1]) (by rw [h1, hl _ ht]) hg (h t ht)
theorem Seen.far {P : List Int → Prop} {c b : List Int} (h : sqL c < sqL b) : Seen P c b := fun t _ => by
  have := sqL_nonneg t
  exact btB_not (by rw [sqL_append]; omega)
theorem sqL_one (x : Int) : sqL [x] = x * x := by simp [sqL]
theorem sqL_push (b : List Int) (x : Int) : sqL (b ++ [x]) = sqL b + x * x := by rw [sqL_append, sqL_one]
/-- A part of a point: each element is the factor times the one before, up to the modulus. -/
def ptL (a m : Int) : List Int → Prop
  | [] => True
  | x :: l => (∀ y t, l = y :: t → (y - a * x) % m = 0) ∧ ptL a m l
theorem ptL_one (a m x : Int) : ptL a m [x] := ⟨fun y t h => (by cases h), trivial⟩
theorem ptL_at {a m : Int} : ∀ {b : List Int} {l y : Int} {t : List Int}, ptL a m (b ++ l :: y :: t) → (y - a * l) % m = 0
  | [], l, y, t, h => h.1 y t rfl
  | x :: b, l, y, t, h => ptL_at (b := b) h.2
theorem ptL_push {a m : Int} : ∀ {b : List Int} {l y : Int}, ptL a m (b ++ [l]) → (y - a * l) % m = 0 → ptL a m (b ++ [l] ++ [y])
  | [], l, y, h, h2 => by
    refine ⟨fun z t e => ?_, ptL_one a m y⟩
    have e2 := List.cons.inj (show y :: [] = z :: t from e)
    rw [← e2.1]; exact h2
  | x :: b, l, y, h, h2 => by
    refine ⟨fun z t e => ?_, ptL_push (b := b) h.2 h2⟩
    cases b with
    | nil =>
      have e2 := List.cons.inj (show l :: [y] = z :: t from e)
      rw [← e2.1]
      exact h.1 l [] rfl
    | cons u b =>
      have e2 := List.cons.inj (show u :: (b ++ [l] ++ [y]) = z :: t from e)
      rw [← e2.1]
      exact h.1 u (b ++ [l]) rfl
/-- The points of a dimension with a positive first element that is not 0. -/
structure IsPt (a m : Int) (D : Nat) (v : List Int) : Prop where
  len : v.length = D
  pt : ptL a m v
  pos : posL v = true
theorem IsPt.hl {a m : Int} {D : Nat} : ∀ v, IsPt a m D v → v.length = D := fun v h => h.len
/-- The list that is kept behind an offer. -/
def ofB (c v : List Int) : List Int := if posL v && btB v c then v else c
theorem ofB_ge (c v : List Int) : geB (ofB c v) c := by
  unfold ofB
  split
  · rename_i h; rw [Bool.and_eq_true] at h; exact geB_of_bt h.2
  · exact geB_refl c
theorem ofB_geV {c v : List Int} (h : posL v = true) : geB (ofB c v) v := by
  unfold ofB
  rw [h, Bool.true_and]
  cases h2 : btB v c with
  | true => exact geB_refl v
  | false => exact h2
theorem ofB_kind {a m : Int} {D : Nat} {c v : List Int} (hc : IsPt a m D c) (hv : v.length = D) (hp : ptL a m v) : IsPt a m D (ofB c v) := by
  unfold ofB
  split
  · rename_i h; rw [Bool.and_eq_true] at h; exact ⟨hv, hp, h.1⟩
  · exact hc
theorem geB_sq {c v : List Int} (h : geB c v) : sqL c ≤ sqL v := by
  unfold geB btB at h
  simp only [Bool.or_eq_false_iff, decide_eq_false_iff_not] at h
  omega
theorem Seen.full {a m : Int} {D : Nat} {c v : List Int} (hl : v.length = D) (h : posL v = true → geB c v) : Seen (IsPt a m D) c v := fun t ht => by
  have := ht.len
  rw [List.length_append, hl] at this
  have : t = [] := List.eq_nil_of_length_eq_zero (by omega)
  subst this
  rw [List.append_nil] at ht ⊢
  exact h ht.pos
/-- All next elements are the first one and steps of the modulus, up or down. -/
theorem Seen.next {a m : Int} {D : Nat} {c b : List Int} {l f : Int} (hm : 0 < m) (hb : (b ++ [l]).length < D) (hf : (f - a * l) % m = 0)
    (h1 : ∀ i : Nat, Seen (IsPt a m D) c (b ++ [l] ++ [f + m * (i : Int)])) (h2 : ∀ i : Nat, Seen (IsPt a m D) c (b ++ [l] ++ [f - m - m * (i : Int)])) : Seen (IsPt a m D) c (b ++ [l]) := fun t ht => by
  cases t with
  | nil => have := ht.len; rw [List.append_nil] at this; omega
  | cons y t =>
    have hy : (y - a * l) % m = 0 := ptL_at (b := b) (t := t) (by have := ht.pt; rwa [List.append_assoc] at this)
    have hd : m ∣ y - f := by
      have e : y - f = (y - a * l) - (f - a * l) := by omega
      rw [e]
      exact Int.dvd_sub (Int.dvd_of_emod_eq_zero hy) (Int.dvd_of_emod_eq_zero hf)
    obtain ⟨k, hk⟩ := hd
    have e0 : b ++ [l] ++ y :: t = b ++ [l] ++ [y] ++ t := by simp
    rw [e0] at ht ⊢
    by_cases h0 : 0 ≤ k
    · obtain ⟨i, rfl⟩ := Int.eq_ofNat_of_zero_le h0
      have e : y = f + m * (i : Int) := by omega
      subst e
      exact h1 i t ht
    · obtain ⟨i, hi⟩ := Int.eq_ofNat_of_zero_le (show 0 ≤ -k - 1 by omega)
      have e : y = f - m - m * (i : Int) := by
        have : k = -(i : Int) - 1 := by omega
        subst this
        rw [Int.mul_sub, Int.mul_neg] at hk
        omega
      subst e
      exact h2 i t ht
/-- A nonnegative number further on has a greater square. -/
theorem sq_mono {x y : Int} (h0 : 0 ≤ x) (h : x ≤ y) : x * x ≤ y * y := sq_le (by omega)
theorem sq_mono2 {x y : Int} (h0 : x ≤ 0) (h : y ≤ x) : x * x ≤ y * y := sq_le (by omega)
theorem Seen.up {P : List Int → Prop} {c b : List Int} {f m : Int} {j : Nat} (hm : 0 < m) (hf : 0 ≤ f) (hs : ∀ i : Nat, i < j → Seen P c (b ++ [f + m * (i : Int)])) (hx : sqL c < sqL b + (f + m * (j : Int)) * (f + m * (j : Int))) (i : Nat) : Seen P c (b ++ [f + m * (i : Int)]) := by
  by_cases h : i < j
  · exact hs i h
  · refine Seen.far ?_
    rw [sqL_push]
    have h1 : m * (j : Int) ≤ m * (i : Int) := Int.mul_le_mul_of_nonneg_left (by omega) (by omega)
    have h2 : 0 ≤ m * (j : Int) := Int.mul_nonneg (by omega) (by omega)
    have := sq_mono (x := f + m * (j : Int)) (y := f + m * (i : Int)) (by omega) (by omega)
    omega
theorem Seen.down {P : List Int → Prop} {c b : List Int} {f m : Int} {j : Nat} (hm : 0 < m) (hf : f < m) (hs : ∀ i : Nat, i < j → Seen P c (b ++ [f - m - m * (i : Int)])) (hx : sqL c < sqL b + (f - m - m * (j : Int)) * (f - m - m * (j : Int))) (i : Nat) : Seen P c (b ++ [f - m - m * (i : Int)]) := by
  by_cases h : i < j
  · exact hs i h
  · refine Seen.far ?_
    rw [sqL_push]
    have h1 : m * (j : Int) ≤ m * (i : Int) := Int.mul_le_mul_of_nonneg_left (by omega) (by omega)
    have h2 : 0 ≤ m * (j : Int) := Int.mul_nonneg (by omega) (by omega)
    have := sq_mono2 (x := f - m - m * (j : Int)) (y := f - m - m * (i : Int)) (by omega) (by omega)
    omega
/-- All first elements have been tried. -/
theorem best_first {a m : Int} {D : Nat} {c : List Int} {x : Int} (hD : 0 < D) (hc : IsPt a m D c) (h0 : 0 ≤ x) (hx : sqL c < x * x) (hs : ∀ i : Nat, (i : Int) < x → Seen (IsPt a m D) c [(i : Int)]) : BestOf (IsPt a m D) c := by
  refine ⟨hc, fun v hv => ?_⟩
  cases v with
  | nil => have := hv.len; simp at this; omega
  | cons y t =>
    have hy : 0 ≤ y := by
      have := hv.pos
      simp only [posL] at this
      by_cases e : y = 0
      · omega
      · rw [if_neg e] at this; simp at this; omega
    obtain ⟨i, rfl⟩ := Int.eq_ofNat_of_zero_le hy
    by_cases hi : (i : Int) < x
    · exact hs i hi t hv
    · have := sq_mono h0 (show x ≤ (i : Int) by omega)
      have h2 := sqL_nonneg t
      exact btB_not (by simp only [sqL]; omega)
end Go.Proofs.Ytpineiocjaajnaa

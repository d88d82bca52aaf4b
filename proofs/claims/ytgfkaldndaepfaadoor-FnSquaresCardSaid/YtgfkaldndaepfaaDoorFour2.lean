import Derived.Test.YtgfkaldndaepfaaDoorFour
/- Shifts, fixed shifts and immunity of tables by sums over all inputs: plain facts. No condition. -/
namespace Go.Proofs.YtgfkaldndaepfaaDoor
set_option linter.unusedVariables false

theorem par6_xor (w x y : Nat) : par6 (w &&& (x ^^^ y)) = xor (par6 (w &&& x)) (par6 (w &&& y)) := by
  unfold par6
  simp only [Nat.testBit_and, Nat.testBit_xor, Bool.and_xor_distrib_left]
  generalize (w.testBit 0 && x.testBit 0) = a0
  generalize (w.testBit 0 && y.testBit 0) = b0
  generalize (w.testBit 1 && x.testBit 1) = a1
  generalize (w.testBit 1 && y.testBit 1) = b1
  generalize (w.testBit 2 && x.testBit 2) = a2
  generalize (w.testBit 2 && y.testBit 2) = b2
  generalize (w.testBit 3 && x.testBit 3) = a3
  generalize (w.testBit 3 && y.testBit 3) = b3
  generalize (w.testBit 4 && x.testBit 4) = a4
  generalize (w.testBit 4 && y.testBit 4) = b4
  generalize (w.testBit 5 && x.testBit 5) = a5
  generalize (w.testBit 5 && y.testBit 5) = b5
  simp only [Bool.xor_comm, Bool.xor_left_comm]
theorem spS_xor (w x y : Nat) : spS w (x ^^^ y) = spS w x * spS w y := by
  unfold spS
  rw [par6_xor]
  cases par6 (w &&& x) <;> cases par6 (w &&& y) <;> rfl
theorem spS_comm (a x : Nat) : spS a x = spS x a := by unfold spS; rw [Nat.and_comm]
theorem spS_sq (w x : Nat) : spS w x * spS w x = 1 := by rcases spS_le w x with h | h <;> rw [h] <;> rfl
theorem spS_zero (x : Nat) : spS 0 x = 1 := by
  unfold spS
  rw [Nat.zero_and]
  have : par6 0 = false := by decide
  rw [this]
  rfl
/-- How a table agrees with itself shifted by a. -/
def shf (f : Nat → Int) (n a : Nat) : Int := isum (fun x => f x * f (x ^^^ a)) n
theorem xor_cancel (x a : Nat) : (x ^^^ a) ^^^ x = a := by rw [Nat.xor_comm x a, Nat.xor_assoc, Nat.xor_self, Nat.xor_zero]
theorem xor_cancel' (x a : Nat) : x ^^^ (x ^^^ a) = a := by rw [← Nat.xor_assoc, Nat.xor_self, Nat.zero_xor]
/-- The squares of the spectrum out of the shifts. -/
theorem shifts_square (f : Nat → Int) {k w : Nat} (hk : k < 7) : isum (fun a => spS w a * shf f (2 ^ k) a) (2 ^ k) = csum (spS w) f (2 ^ k) * csum (spS w) f (2 ^ k) := by
  have e1 : ∀ a, spS w a * shf f (2 ^ k) a = isum (fun x => spS w a * (f x * f (x ^^^ a))) (2 ^ k) := fun a => by unfold shf; rw [isum_mul]
  rw [isum_congr _ (fun a _ => e1 a), isum_swap]
  have e2 : ∀ x, x < 2 ^ k → isum (fun a => spS w a * (f x * f (x ^^^ a))) (2 ^ k) = csum (spS w) f (2 ^ k) * (spS w x * f x) := by
    intro x hx
    have h1 := isum_xor k (fun y => (spS w x * f x) * (spS w y * f y)) x hk hx
    have h2 : isum (fun y => (spS w x * f x) * (spS w y * f y)) (2 ^ k) = csum (spS w) f (2 ^ k) * (spS w x * f x) := by rw [isum_mul, ← csum_isum, Int.mul_comm]
    rw [← h2, ← h1]
    refine isum_congr _ fun a _ => ?_
    rw [spS_xor, Nat.xor_comm a x]
    have := spS_sq w x
    have e : spS w x * f x * (spS w a * spS w x * f (x ^^^ a)) = (spS w x * spS w x) * (spS w a * (f x * f (x ^^^ a))) := by grind
    rw [e, this, Int.one_mul]
  rw [isum_congr _ e2, isum_mul, ← csum_isum]
theorem isum_ext {h : Nat → Int} : ∀ n : Nat, (∀ x, x < n → h x ≤ 1) → isum h n ≤ n ∧ (isum h n = n → ∀ x, x < n → h x = 1)
  | 0, _ => ⟨by simp [isum], fun _ x hx => by omega⟩
  | n + 1, hb => by
    obtain ⟨h1, h2⟩ := isum_ext n (fun x hx => hb x (by omega))
    have h3 := hb n (by omega)
    simp only [isum]
    refine ⟨by push_cast; omega, fun e x hx => ?_⟩
    push_cast at e
    by_cases hxn : x = n
    · subst hxn; omega
    · exact h2 (by omega) x (by omega)
/-- A shift is fixed: the table agrees everywhere, or nowhere. -/
theorem fixed_iff (f : Nat → Int) (hf : ∀ x, f x = 1 ∨ f x = -1) (n a : Nat) : (shf f n a = n ∨ shf f n a = -(n : Int)) ↔ ((∀ x, x < n → f x * f (x ^^^ a) = 1) ∨ (∀ x, x < n → f x * f (x ^^^ a) = -1)) := by
  have hp : ∀ x, f x * f (x ^^^ a) = 1 ∨ f x * f (x ^^^ a) = -1 := fun x => by
    rcases hf x with h | h <;> rcases hf (x ^^^ a) with g | g <;> rw [h, g] <;> decide
  constructor
  · rintro (h | h)
    · left
      exact (isum_ext n (fun x _ => by rcases hp x with e | e <;> rw [e] <;> omega)).2 h
    · right
      intro x hx
      have := (isum_ext (h := fun x => -(f x * f (x ^^^ a))) n (fun x _ => by rcases hp x with e | e <;> simp only [e] <;> omega)).2 (by rw [isum_neg]; unfold shf at h; rw [h]; omega) x hx
      omega
  · rintro (h | h)
    · left
      unfold shf
      rw [isum_congr n (g := fun _ => 1) h, isum_const]
      omega
    · right
      unfold shf
      rw [isum_congr n (g := fun _ => -1) h, isum_const]
      omega
/-- Fixed shifts make fixed shifts. -/
theorem fixed_xor (f : Nat → Int) (hf : ∀ x, f x = 1 ∨ f x = -1) {k a b : Nat} (ha : a < 2 ^ k) (h1 : shf f (2 ^ k) a = (2 ^ k : Nat) ∨ shf f (2 ^ k) a = -((2 ^ k : Nat) : Int)) (h2 : shf f (2 ^ k) b = (2 ^ k : Nat) ∨ shf f (2 ^ k) b = -((2 ^ k : Nat) : Int)) :
    shf f (2 ^ k) (a ^^^ b) = (2 ^ k : Nat) ∨ shf f (2 ^ k) (a ^^^ b) = -((2 ^ k : Nat) : Int) := by
  rw [fixed_iff f hf] at h1 h2 ⊢
  have hs : ∀ x, f x * f x = 1 := fun x => by rcases hf x with h | h <;> rw [h] <;> rfl
  have key : ∀ x, x < 2 ^ k → f x * f (x ^^^ (a ^^^ b)) = (f x * f (x ^^^ a)) * (f (x ^^^ a) * f ((x ^^^ a) ^^^ b)) := fun x _ => by
    rw [← Nat.xor_assoc]
    have e : (f x * f (x ^^^ a)) * (f (x ^^^ a) * f ((x ^^^ a) ^^^ b)) = (f (x ^^^ a) * f (x ^^^ a)) * (f x * f ((x ^^^ a) ^^^ b)) := by grind
    rw [e, hs, Int.one_mul]
  have hx : ∀ x, x < 2 ^ k → x ^^^ a < 2 ^ k := fun x h => Nat.xor_lt_two_pow h ha
  rcases h1 with h1 | h1 <;> rcases h2 with h2 | h2
  · left; intro x h; rw [key x h, h1 x h, h2 _ (hx x h)]; rfl
  · right; intro x h; rw [key x h, h1 x h, h2 _ (hx x h)]; rfl
  · right; intro x h; rw [key x h, h1 x h, h2 _ (hx x h)]; rfl
  · left; intro x h; rw [key x h, h1 x h, h2 _ (hx x h)]; rfl

/-- The sum over all that lie in a mask. -/
def subS (mask y a : Nat) : Int := if a &&& mask == a then spS y a else 0
theorem sub_flip (mask a j : Nat) (h : mask.testBit j = true) : ((a ^^^ 2 ^ j) &&& mask == (a ^^^ 2 ^ j)) = (a &&& mask == a) := by
  have e : (a ^^^ 2 ^ j) &&& mask = (a &&& mask) ^^^ 2 ^ j := by
    apply Nat.eq_of_testBit_eq
    intro i
    simp only [Nat.testBit_and, Nat.testBit_xor, Nat.testBit_two_pow]
    by_cases hij : j = i
    · subst hij; rw [h]; simp
    · simp [hij]
  rw [e, Bool.eq_iff_iff]
  simp only [beq_iff_eq]
  constructor
  · intro h1
    have := congrArg (· ^^^ 2 ^ j) h1
    simpa [Nat.xor_assoc] using this
  · intro h1; rw [h1]
theorem spS_bit (y j : Nat) (hj : j < 6) (h : y.testBit j = true) : spS y (2 ^ j) = -1 := by
  have : ∀ j, j < 6 → ∀ b : Bool, ∀ y : Nat, y.testBit j = b → par6 (y &&& 2 ^ j) = b := by
    intro j hj b y hy
    have e : y &&& 2 ^ j = if b then 2 ^ j else 0 := by
      apply Nat.eq_of_testBit_eq
      intro i
      simp only [Nat.testBit_and, Nat.testBit_two_pow]
      cases b with
      | true =>
        simp only [if_true, Nat.testBit_two_pow]
        by_cases hij : j = i
        · subst hij; rw [hy]; simp
        · simp [hij]
      | false =>
        simp only [Bool.false_eq_true, if_false, Nat.zero_testBit]
        by_cases hij : j = i
        · subst hij; rw [hy]; simp
        · simp [hij]
    rw [e]
    have : ∀ j, j < 6 → par6 (2 ^ j) = true := by decide
    cases b with
    | true => rw [if_pos rfl]; exact this j hj
    | false => rw [if_neg (by simp)]; decide
  unfold spS
  rw [this j hj true y h]
  rfl
theorem sub_zero {k mask y j : Nat} (hk : k < 7) (hj : j < k) (h1 : mask.testBit j = true) (h2 : y.testBit j = true) : isum (subS mask y) (2 ^ k) = 0 := by
  have h := isum_xor k (subS mask y) (2 ^ j) hk (pow_lt_pow' hj)
  have e : ∀ a, subS mask y (a ^^^ 2 ^ j) = -(subS mask y a) := fun a => by
    unfold subS
    rw [sub_flip mask a j h1, spS_xor, spS_bit y j (by omega) h2]
    split <;> omega
  rw [isum_congr _ (fun a _ => e a), isum_neg] at h
  omega
theorem sub_count : ∀ k, k < 7 → ∀ mask, mask < 2 ^ k → isum (fun a => if a &&& mask == a then 1 else 0) (2 ^ k) = ((2 ^ pop6 mask : Nat) : Int) := by decide +kernel
theorem bit_of_ne {k m : Nat} (hm : m < 2 ^ k) (h : m ≠ 0) : ∃ j, j < k ∧ m.testBit j = true := by
  obtain ⟨j, hj⟩ := Nat.exists_testBit_of_ne_zero h
  refine ⟨j, ?_, hj⟩
  rcases Nat.lt_or_ge j k with h1 | h1
  · exact h1
  · rw [Nat.testBit_lt_two_pow (Nat.lt_of_lt_of_le hm (Nat.pow_le_pow_right (by omega) h1))] at hj
    cases hj
theorem sub_sum {k mask y : Nat} (hk : k < 7) (hm : mask < 2 ^ k) : isum (subS mask y) (2 ^ k) = if y &&& mask = 0 then ((2 ^ pop6 mask : Nat) : Int) else 0 := by
  by_cases h : y &&& mask = 0
  · rw [if_pos h, ← sub_count k hk mask hm]
    refine isum_congr _ fun a _ => ?_
    unfold subS
    cases ha : (a &&& mask == a) with
    | false => simp
    | true =>
      have e : y &&& a = 0 := by
        have : a = a &&& mask := by simpa using (beq_iff_eq.1 ha).symm
        rw [this, Nat.and_comm a mask, ← Nat.and_assoc, h, Nat.zero_and]
      unfold spS
      rw [e]
      rfl
  · rw [if_neg h]
    obtain ⟨j, hj, hb⟩ := bit_of_ne (Nat.and_lt_two_pow y hm) h
    rw [Nat.testBit_and, Bool.and_eq_true] at hb
    exact sub_zero hk hj hb.2 hb.1
/-- If the spectrum is 0 at all places in a mask but 0, each choice of the masked inputs holds the same part of the table. -/
theorem immune (f : Nat → Int) {k mask v : Nat} (hk : k < 7) (hm : mask < 2 ^ k) (hv : v &&& mask = v) (hz : ∀ a, a < 2 ^ k → a ≠ 0 → (a &&& mask == a) = true → csum (spS a) f (2 ^ k) = 0) :
    isum (fun x => if x &&& mask = v then f x else 0) (2 ^ k) * ((2 ^ pop6 mask : Nat) : Int) = isum f (2 ^ k) := by
  have h1 : isum (fun a => subS mask v a * csum (spS a) f (2 ^ k)) (2 ^ k) = isum f (2 ^ k) := by
    have : ∀ n, n ≤ 2 ^ k → isum (fun a => subS mask v a * csum (spS a) f (2 ^ k)) n = if n = 0 then 0 else isum f (2 ^ k) := by
      intro n
      induction n with
      | zero => intro _; rfl
      | succ n ih =>
        intro hn
        simp only [isum]
        rw [ih (by omega)]
        by_cases h0 : n = 0
        · subst h0
          have : subS mask v 0 = 1 := by
            unfold subS
            rw [Nat.zero_and, spS_comm, spS_zero]
            simp
          rw [this, csum_isum, if_pos rfl, if_neg (by omega), isum_congr (g := f) _ (fun x _ => by rw [spS_zero, Int.one_mul])]
          omega
        · rw [if_neg h0, if_neg (by omega)]
          cases ha : (n &&& mask == n) with
          | true => rw [hz n (by omega) h0 ha]; simp
          | false => unfold subS; rw [ha]; simp
    rw [this _ (Nat.le_refl _), if_neg (Nat.ne_of_gt (Nat.two_pow_pos k))]
  rw [← h1]
  have e1 : ∀ a, subS mask v a * csum (spS a) f (2 ^ k) = isum (fun x => subS mask v a * (spS a x * f x)) (2 ^ k) := fun a => by rw [csum_isum, isum_mul]
  rw [isum_congr _ (fun a _ => e1 a), isum_swap, Int.mul_comm, ← isum_mul]
  refine isum_congr _ fun x _ => ?_
  have e2 : ∀ a, subS mask v a * (spS a x * f x) = f x * subS mask (v ^^^ x) a := fun a => by
    unfold subS
    split
    · rw [spS_comm (v ^^^ x) a, spS_xor, spS_comm v a]; grind
    · simp
  rw [isum_congr _ (fun a _ => e2 a), isum_mul, sub_sum hk hm]
  by_cases h : x &&& mask = v
  · have h3 : (v ^^^ x) &&& mask = 0 := by rw [Nat.and_xor_distrib_right, hv, h, Nat.xor_self]
    rw [if_pos h, if_pos h3, Int.mul_comm]
  · have h3 : ¬ (v ^^^ x) &&& mask = 0 := by
      intro e
      rw [Nat.and_xor_distrib_right, hv] at e
      apply h
      have := congrArg (v ^^^ ·) e
      simp only [xor_cancel', Nat.xor_zero] at this
      exact this
    rw [if_neg h, if_neg h3]
    simp
end Go.Proofs.YtgfkaldndaepfaaDoor

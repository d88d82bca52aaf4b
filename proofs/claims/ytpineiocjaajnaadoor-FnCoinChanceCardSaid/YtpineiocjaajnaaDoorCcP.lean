import Derived.Test.YtpineiocjaajnaaDoorCoin
/- How often a coin is 1 over all strings of bits: plain facts. No condition. -/
namespace Go.Proofs.YtpineiocjaajnaaDoor
set_option linter.unusedVariables false

/-- The number that the first digits of the fraction make. -/
def ccT (d r0 : Int) : Nat → Int
  | 0 => 0
  | m + 1 => 2 * ccT d r0 m + (if cfD d r0 m then 1 else 0)
theorem ccT_eq (d r0 : Int) : ∀ m, ccT d r0 m * d + cfR d r0 m = r0 * 2 ^ m
  | 0 => by simp [ccT, cfR]
  | m + 1 => by
    have h := ccT_eq d r0 m
    rw [ccT, cfR]
    have e : r0 * 2 ^ (m + 1) = 2 * (r0 * 2 ^ m) := by rw [Int.pow_succ, ← Int.mul_assoc, Int.mul_comm]
    rw [e, ← h]
    unfold cfD
    by_cases hd : d ≤ 2 * cfR d r0 m
    · rw [if_pos hd, if_pos (by simpa using hd), Int.add_mul, Int.mul_assoc, Int.mul_add]; omega
    · rw [if_neg hd, if_neg (by simpa using hd), Int.add_zero, Int.mul_assoc, Int.mul_add]
theorem ccT_bd {d r0 : Int} : ∀ m, 0 ≤ ccT d r0 m ∧ ccT d r0 m < 2 ^ m
  | 0 => by simp [ccT]
  | m + 1 => by
    have h := ccT_bd (d := d) (r0 := r0) m
    have e : (2:Int) ^ (m + 1) = 2 * 2 ^ m := by rw [Int.pow_succ, Int.mul_comm]
    rw [ccT, e]; split <;> omega
/-- Bit k of x, the first of s bits first. -/
def ccB (x s k : Nat) : Bool := x.testBit (s - 1 - k)
theorem pre_step {x s m : Nat} (h : m < s) : x >>> (s - (m + 1)) = 2 * (x >>> (s - m)) + (if ccB x s m then 1 else 0) := by
  have e : s - m = (s - (m + 1)) + 1 := by omega
  have e2 : s - 1 - m = s - (m + 1) := by omega
  unfold ccB
  rw [e2, e, Nat.shiftRight_succ, Nat.testBit_eq_decide_div_mod_eq, Nat.shiftRight_eq_div_pow]
  have h1 := Nat.div_add_mod (x / 2 ^ (s - (m + 1))) 2
  have h2 := Nat.mod_lt (x / 2 ^ (s - (m + 1))) (show 0 < 2 by omega)
  by_cases hb : x / 2 ^ (s - (m + 1)) % 2 = 1
  · simp [hb]; omega
  · simp [hb]; omega
def ccS (o : Option (Bool × Nat)) (m : Nat) (X T : Int) : Prop := match o with
  | none => X = T
  | some (true, k) => X < T ∧ 1 ≤ k ∧ k ≤ m
  | some (false, k) => T < X ∧ 1 ≤ k ∧ k ≤ m
theorem cc_all (d r0 : Int) (x s : Nat) (hx : x < 2 ^ s) : ∀ m, m ≤ s → ccS (cfA (ccB x s) (cfD d r0) m) m ((x >>> (s - m) : Nat) : Int) (ccT d r0 m)
  | 0, _ => by
    have : x >>> s = 0 := by rw [Nat.shiftRight_eq_div_pow]; exact Nat.div_eq_of_lt hx
    simp [cfA, ccS, ccT, this]
  | m + 1, hm => by
    have h := cc_all d r0 x s hx m (by omega)
    rw [cfA, ccT, pre_step (by omega)]
    generalize x >>> (s - m) = X at h ⊢
    cases hA : cfA (ccB x s) (cfD d r0) m with
    | none =>
      rw [hA] at h
      simp only [ccS] at h
      cases hb : ccB x s m <;> cases hg : cfD d r0 m <;> simp [ccS, h] <;> omega
    | some p =>
      rw [hA] at h
      obtain ⟨b, k⟩ := p
      cases b <;> simp only [ccS] at h <;> cases hb : ccB x s m <;> cases hg : cfD d r0 m <;> simp [ccS] <;> omega

theorem cfA_congr {f f' g : Nat → Bool} : ∀ m, (∀ k, k < m → f k = f' k) → cfA f g m = cfA f' g m
  | 0, _ => rfl
  | m + 1, h => by rw [cfA, cfA, cfA_congr m (fun k hk => h k (by omega)), h m (by omega)]
/-- Heads and open strings among the numbers below x. -/
def ccH (T : Int) (x : Nat) : Int := if (x : Int) ≤ T then x else T
def ccO (T : Int) (x : Nat) : Int := if (x : Int) ≤ T then 0 else 1
theorem cc_round {d r0 : Int} {x s : Nat} (hx : x < 2 ^ s) :
    match cfA (ccB x s) (cfD d r0) s with
    | none => ccO (ccT d r0 s) (x + 1) = ccO (ccT d r0 s) x + 1 ∧ ccH (ccT d r0 s) (x + 1) = ccH (ccT d r0 s) x
    | some (b, k) => ccO (ccT d r0 s) (x + 1) = ccO (ccT d r0 s) x ∧ ccH (ccT d r0 s) (x + 1) = ccH (ccT d r0 s) x + (if b then 1 else 0) ∧ 1 ≤ k ∧ k ≤ s := by
  have h := cc_all d r0 x s hx s (Nat.le_refl _)
  have e0 : x >>> (s - s) = x := by simp
  rw [e0] at h
  generalize ccT d r0 s = T at h ⊢
  cases hA : cfA (ccB x s) (cfD d r0) s with
  | none =>
    rw [hA] at h
    simp only [ccS] at h
    subst h
    simp only [ccO, ccH]
    rw [if_neg (by omega), if_pos (by omega), if_neg (by omega), if_pos (by omega)]
    omega
  | some p =>
    rw [hA] at h
    obtain ⟨b, k⟩ := p
    cases b <;> simp only [ccS] at h <;> simp only [ccO, ccH]
    · rw [if_neg (by omega), if_neg (by omega), if_neg (by omega), if_neg (by omega)]
      simp; omega
    · rw [if_pos (by omega), if_pos (by omega), if_pos (by omega), if_pos (by omega)]
      simp; omega
theorem cc_end {d r0 : Int} (h : 0 ≤ r0 ∧ r0 ≤ d) (s : Nat) : ccO (ccT d r0 s) (2 ^ s) = 1 ∧ ccH (ccT d r0 s) (2 ^ s) * d ≤ r0 * 2 ^ s ∧ r0 * 2 ^ s ≤ (ccH (ccT d r0 s) (2 ^ s) + 1) * d := by
  have h1 := ccT_bd (d := d) (r0 := r0) s
  have h2 := ccT_eq d r0 s
  have h3 := cfR_bd h s
  have e : ((2 ^ s : Nat) : Int) = 2 ^ s := by simp
  unfold ccO ccH
  rw [e, if_neg (by omega), if_neg (by omega)]
  refine ⟨rfl, by omega, ?_⟩
  rw [Int.add_mul]
  omega
end Go.Proofs.YtpineiocjaajnaaDoor

/- Fractions in lowest terms by sign, numerator and denominator: plain facts on rational numbers. No condition. -/
namespace Go.Proofs.Ytklnfhjgbmfilaa
set_option linter.unusedVariables false

/-- A number by its sign and its size. -/
def sgn (neg : Bool) (n : Nat) : Int := if neg then -(n : Int) else n
theorem sgn_abs (neg : Bool) (n : Nat) : (sgn neg n).natAbs = n := by cases neg <;> simp [sgn]
theorem sgn_self (p : Int) : sgn (decide (p < 0)) p.natAbs = p := by
  by_cases h : p < 0
  · simp only [sgn, h, decide_true, if_true]; omega
  · simp only [sgn, h, decide_false]; simp; omega
theorem sgn_neg (neg : Bool) (n : Nat) (h : n ≠ 0) : decide (sgn neg n < 0) = neg := by
  cases neg
  · simp [sgn]
  · simp [sgn]; omega
theorem mk_num {n : Int} {d : Nat} (hd : d ≠ 0) : (mkRat n d).num = n / ((n.natAbs.gcd d : Nat) : Int) := by
  rw [Rat.mkRat_def, dif_neg hd, Rat.normalize_eq]
theorem mk_den {n : Int} {d : Nat} (hd : d ≠ 0) : (mkRat n d).den = d / n.natAbs.gcd d := by
  rw [Rat.mkRat_def, dif_neg hd, Rat.normalize_eq]
theorem mk_abs {n : Int} {d : Nat} (hd : d ≠ 0) : (mkRat n d).num.natAbs = n.natAbs / n.natAbs.gcd d := by
  rw [mk_num hd, Int.natAbs_ediv_of_dvd (by
    exact Int.ofNat_dvd_left.2 (Nat.gcd_dvd_left _ _))]
  simp
theorem mk_neg {n : Int} {d : Nat} (hd : d ≠ 0) : decide ((mkRat n d).num < 0) = decide (n < 0) := by
  have hg : (0 : Int) < ((n.natAbs.gcd d : Nat) : Int) := by
    have := Nat.gcd_pos_of_pos_right n.natAbs (Nat.pos_of_ne_zero hd)
    omega
  rw [mk_num hd]
  congr 1
  have hdv : ((n.natAbs.gcd d : Nat) : Int) ∣ n := by
    exact Int.ofNat_dvd_left.2 (Nat.gcd_dvd_left _ _)
  obtain ⟨m, hm⟩ := hdv
  generalize ((n.natAbs.gcd d : Nat) : Int) = g at hg hm
  subst hm
  rw [Int.mul_ediv_cancel_left _ (by omega)]
  apply propext
  constructor
  · intro h; exact Int.mul_neg_of_pos_of_neg hg h
  · intro h
    rcases Int.lt_or_le m 0 with h1 | h1
    · exact h1
    · have := Int.mul_nonneg (Int.le_of_lt hg) h1; omega
theorem mk_zero (d : Nat) : mkRat 0 d = 0 := by simp
theorem rat_add (a b : Rat) : a + b = mkRat (a.num * b.den + b.num * a.den) (a.den * b.den) := by
  rw [Rat.add_def, Rat.normalize_eq_mkRat]
theorem rat_mul (a b : Rat) : a * b = mkRat (a.num * b.num) (a.den * b.den) := by
  rw [Rat.mul_def, Rat.normalize_eq_mkRat]
theorem add_same {p q : Int} {d e : Nat} (h : decide (p < 0) = decide (q < 0)) : p * e + q * d = sgn (decide (p < 0)) (p.natAbs * e + q.natAbs * d) := by
  by_cases hp : p < 0
  · have hq : q < 0 := by simpa [hp] using h
    have h1 : p = -(p.natAbs : Int) := by omega
    have h2 : q = -(q.natAbs : Int) := by omega
    generalize p.natAbs = a at h1
    generalize q.natAbs = b at h2
    subst h1 h2
    simp only [sgn, hp, decide_true, if_true, Int.natCast_add, Int.natCast_mul]
    grind
  · have hq : ¬ q < 0 := by simpa [hp] using h
    have h1 : p = (p.natAbs : Int) := by omega
    have h2 : q = (q.natAbs : Int) := by omega
    generalize p.natAbs = a at h1
    generalize q.natAbs = b at h2
    subst h1 h2
    simp [sgn, hp]
theorem add_ge {p q : Int} {d e : Nat} (h : decide (p < 0) ≠ decide (q < 0)) (hab : q.natAbs * d ≤ p.natAbs * e) : p * e + q * d = sgn (decide (p < 0)) (p.natAbs * e - q.natAbs * d) := by
  by_cases hp : p < 0
  · have hq : ¬ q < 0 := by intro hq; apply h; simp [hp, hq]
    have h1 : p = -(p.natAbs : Int) := by omega
    have h2 : q = (q.natAbs : Int) := by omega
    generalize p.natAbs = a at h1 hab
    generalize q.natAbs = b at h2 hab
    subst h1 h2
    simp only [sgn, hp, decide_true, if_true]
    rw [Int.ofNat_sub hab]
    simp only [Int.natCast_mul]
    grind
  · have hq : q < 0 := by
      rcases Int.lt_or_le q 0 with h1 | h1
      · exact h1
      · exfalso; apply h; simp [hp]; omega
    have h1 : p = (p.natAbs : Int) := by omega
    have h2 : q = -(q.natAbs : Int) := by omega
    generalize p.natAbs = a at h1 hab
    generalize q.natAbs = b at h2 hab
    subst h1 h2
    have : decide (((a : Int)) < 0) = false := by simp
    rw [this]
    simp only [sgn]
    rw [if_neg (by simp), Int.ofNat_sub hab]
    simp only [Int.natCast_mul]
    grind
theorem add_lt {p q : Int} {d e : Nat} (h : decide (p < 0) ≠ decide (q < 0)) (hab : p.natAbs * e < q.natAbs * d) : p * e + q * d = sgn (decide (q < 0)) (q.natAbs * d - p.natAbs * e) := by
  rw [Int.add_comm]
  exact add_ge (p := q) (q := p) (d := e) (e := d) (fun e => h e.symm) (by omega)
theorem mul_sgn {p q : Int} : p * q = sgn (decide (p < 0) != decide (q < 0)) (p.natAbs * q.natAbs) := by
  by_cases hp : p < 0 <;> by_cases hq : q < 0
  · have h1 : p = -(p.natAbs : Int) := by omega
    have h2 : q = -(q.natAbs : Int) := by omega
    rw [decide_eq_true hp, decide_eq_true hq]
    generalize p.natAbs = a at h1
    generalize q.natAbs = b at h2
    subst h1 h2
    simp [sgn, Int.neg_mul, Int.mul_neg]
  · have h1 : p = -(p.natAbs : Int) := by omega
    have h2 : q = (q.natAbs : Int) := by omega
    rw [decide_eq_true hp, decide_eq_false hq]
    generalize p.natAbs = a at h1
    generalize q.natAbs = b at h2
    subst h1 h2
    simp [sgn, Int.neg_mul]
  · have h1 : p = (p.natAbs : Int) := by omega
    have h2 : q = -(q.natAbs : Int) := by omega
    rw [decide_eq_false hp, decide_eq_true hq]
    generalize p.natAbs = a at h1
    generalize q.natAbs = b at h2
    subst h1 h2
    simp [sgn, Int.mul_neg]
  · have h1 : p = (p.natAbs : Int) := by omega
    have h2 : q = (q.natAbs : Int) := by omega
    rw [decide_eq_false hp, decide_eq_false hq]
    generalize p.natAbs = a at h1
    generalize q.natAbs = b at h2
    subst h1 h2
    simp [sgn]
/-- A fraction is in lowest terms as it is. -/
theorem rat_of {p : Int} {q : Nat} (hq : q ≠ 0) (h : p.natAbs.gcd q = 1) : (mkRat p q).num = p ∧ (mkRat p q).den = q := by
  rw [mk_num hq, mk_den hq, h]
  simp
end Go.Proofs.Ytklnfhjgbmfilaa

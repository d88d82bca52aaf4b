
/- Fractions in lowest terms by sign, numerator and denominator: plain facts on rational numbers. No condition. -/
namespace Go.Proofs.YtaneocedklnajaaGreat
set_option linter.unusedVariables false

/-- A number by its sign and its size. -/
def sgn (neg : Bool) (n : Nat) : Int := if neg then -(n : Int) else n
theorem sgn_abs (neg : Bool) (n : Nat) : (sgn neg n).natAbs = n := by cases neg <;> simp [sgn]
theorem sgn_self (p : Int) : sgn (decide (p < 0)) p.natAbs = p := by
  by_cases h : p < 0
  · simp only [sgn, h, decide_true, if_true]; omega
  · simp only [sgn, h, decide_false]; simp; omega
theorem sgn_neg (neg : Bool) (n : Nat) (h : n ≠ 0) : decide (sgn neg n < 0) = neg := by
  cases neg
  · simp [sgn]
  · simp [sgn]; omega
theorem mk_num {n : Int} {d : Nat} (hd : d ≠ 0) : (mkRat n d).num = n / ((n.natAbs.gcd d : Nat) : Int) := by
  rw [Rat.mkRat_def, dif_neg hd, Rat.normalize_eq]
theorem mk_den {n : Int} {d : Nat} (hd : d ≠ 0) : (mkRat n d).den = d / n.natAbs.gcd d := by
  rw [Rat.mkRat_def, dif_neg hd, Rat.normalize_eq]
theorem mk_abs {n : Int} {d : Nat} (hd : d ≠ 0) : (mkRat n d).num.natAbs = n.natAbs / n.natAbs.gcd d := by
  rw [mk_num hd, Int.natAbs_ediv_of_dvd (by
    exact Int.ofNat_dvd_left.2 (Nat.gcd_dvd_left _ _))]
  simp
theorem mk_neg {n : Int} {d : Nat} (hd : d ≠ 0) : decide ((mkRat n d).num < 0) = decide (n < 0) := by
  have hg : (0 : Int) < ((n.natAbs.gcd d : Nat) : Int) := by
    have := Nat.gcd_pos_of_pos_right n.natAbs (Nat.pos_of_ne_zero hd)
    omega
  rw [mk_num hd]
  congr 1
  have hdv : ((n.natAbs.gcd d : Nat) : Int) ∣ n := by
    exact Int.ofNat_dvd_left.2 (Nat.gcd_dvd_left _ _)
  obtain ⟨m, hm⟩ := hdv
  generalize ((n.natAbs.gcd d : Nat) : Int) = g at hg hm
  subst hm
  rw [Int.mul_ediv_cancel_left _ (by omega)]
  apply propext
  constructor
  · intro h; exact Int.mul_neg_of_pos_of_neg hg h
  · intro h
    rcases Int.lt_or_le m 0 with h1 | h1
    · exact h1
    · have := Int.mul_nonneg (Int.le_of_lt hg) h1; omega
theorem mk_zero (d : Nat) : mkRat 0 d = 0 := by simp
theorem rat_add (a b : Rat) : a + b = mkRat (a.num * b.den + b.num * a.den) (a.den * b.den) := by
  rw [Rat.add_def, Rat.normalize_eq_mkRat]
theorem rat_mul (a b : Rat) : a * b = mkRat (a.num * b.num) (a.den * b.den) := by
  rw [Rat.mul_def, Rat.normalize_eq_mkRat]
theorem add_same {p q : Int} {d e : Nat} (h : decide (p < 0) = decide (q < 0)) : p * e + q * d = sgn (decide (p < 0)) (p.natAbs * e + q.natAbs * d) := by
  by_cases hp : p < 0
  · have hq : q < 0 := by simpa [hp] using h
    have h1 : p = -(p.natAbs : Int) := by omega
    have h2 : q = -(q.natAbs : Int) := by omega
    generalize p.natAbs = a at h1
    generalize q.natAbs = b at h2
    subst h1 h2
    simp only [sgn, hp, decide_true, if_true, Int.natCast_add, Int.natCast_mul]
    grind
  · have hq : ¬ q < 0 := by simpa [hp] using h
    have h1 : p = (p.natAbs : Int) := by omega
    have h2 : q = (q.natAbs : Int) := by omega
    generalize p.natAbs = a at h1
    generalize q.natAbs = b at h2
    subst h1 h2
    simp [sgn, hp]
theorem add_ge {p q : Int} {d e : Nat} (h : decide (p < 0) ≠ decide (q < 0)) (hab : q.natAbs * d ≤ p.natAbs * e) : p * e + q * d = sgn (decide (p < 0)) (p.natAbs * e - q.natAbs * d) := by
  by_cases hp : p < 0
  · have hq : ¬ q < 0 := by intro hq; apply h; simp [hp, hq]
    have h1 : p = -(p.natAbs : Int) := by omega
    have h2 : q = (q.natAbs : Int) := by omega
    generalize p.natAbs = a at h1 hab
    generalize q.natAbs = b at h2 hab
    subst h1 h2
    simp only [sgn, hp, decide_true, if_true]
    rw [Int.ofNat_sub hab]
    simp only [Int.natCast_mul]
    grind
  · have hq : q < 0 := by
      rcases Int.lt_or_le q 0 with h1 | h1
      · exact h1
      · exfalso; apply h; simp [hp]; omega
    have h1 : p = (p.natAbs : Int) := by omega
    have h2 : q = -(q.natAbs : Int) := by omega
    generalize p.natAbs = a at h1 hab
    generalize q.natAbs = b at h2 hab
    subst h1 h2
    have : decide (((a : Int)) < 0) = false := by simp
    rw [this]
    simp only [sgn]
    rw [if_neg (by simp), Int.ofNat_sub hab]
    simp only [Int.natCast_mul]
    grind
theorem add_lt {p q : Int} {d e : Nat} (h : decide (p < 0) ≠ decide (q < 0)) (hab : p.natAbs * e < q.natAbs * d) : p * e + q * d = sgn (decide (q < 0)) (q.natAbs * d - p.natAbs * e) := by
  rw [Int.add_comm]
  exact add_ge (p := q) (q := p) (d := e) (e := d) (fun e => h e.symm) (by omega)
theorem mul_sgn {p q : Int} : p * q = sgn (decide (p < 0) != decide (q < 0)) (p.natAbs * q.natAbs) := by
  by_cases hp : p < 0 <;> by_cases hq : q < 0
  · have h1 : p = -(p.natAbs : Int) := by omega
    have h2 : q = -(q.natAbs : Int) := by omega
    rw [decide_eq_true hp, decide_eq_true hq]
    generalize p.natAbs = a at h1
    generalize q.natAbs = b at h2
    subst h1 h2
    simp [sgn, Int.neg_mul, Int.mul_neg]
  · have h1 : p = -(p.natAbs : Int) := by omega
    have h2 : q = (q.natAbs : Int) := by omega
    rw [decide_eq_true hp, decide_eq_false hq]
    generalize p.natAbs = a at h1
    generalize q.natAbs = b at h2
    subst h1 h2
    simp [sgn, Int.neg_mul]
  · have h1 : p = (p.natAbs : Int) := by omega
    have h2 : q = -(q.natAbs : Int) := by omega
    rw [decide_eq_false hp, decide_eq_true hq]
    generalize p.natAbs = a at h1
    generalize q.natAbs = b at h2
    subst h1 h2
    simp [sgn, Int.mul_neg]
  · have h1 : p = (p.natAbs : Int) := by omega
    have h2 : q = (q.natAbs : Int) := by omega
    rw [decide_eq_false hp, decide_eq_false hq]
    generalize p.natAbs = a at h1
    generalize q.natAbs = b at h2
    subst h1 h2
    simp [sgn]
/-- A fraction is in lowest terms as it is. -/
theorem rat_of {p : Int} {q : Nat} (hq : q ≠ 0) (h : p.natAbs.gcd q = 1) : (mkRat p q).num = p ∧ (mkRat p q).den = q := by
  rw [mk_num hq, mk_den hq, h]
  simp
end Go.Proofs.YtaneocedklnajaaGreat
/- The reference's way to add and to multiply fractions gives the sum and the product in lowest terms: plain facts. No condition. -/
namespace Go.Proofs.YtaneocedklnajaaGreat
set_option linter.unusedVariables false

/-- The numerator over the common denominator shares nothing with what a denominator has alone. -/
theorem gcd_mix {p q t : Int} {b e : Nat} (hp : Nat.Coprime p.natAbs b) (h : Nat.Coprime b e) (ht : t = p * e + q * b) : Nat.Coprime b t.natAbs := by
  have hk1 : b.gcd t.natAbs ∣ b := Nat.gcd_dvd_left _ _
  have hk2 : b.gcd t.natAbs ∣ t.natAbs := Nat.gcd_dvd_right _ _
  unfold Nat.Coprime
  generalize b.gcd t.natAbs = k at hk1 hk2
  have h1 : (k : Int) ∣ t := Int.ofNat_dvd_left.2 hk2
  have h2 : (k : Int) ∣ q * b := Int.dvd_mul_of_dvd_right (Int.ofNat_dvd.2 hk1)
  have h3 : (k : Int) ∣ p * e := by
    rw [ht, Int.add_comm] at h1
    exact (Int.dvd_add_right h2).1 h1
  have h4 : k ∣ p.natAbs * e := by
    have := Int.ofNat_dvd_left.1 h3
    rwa [Int.natAbs_mul, Int.natAbs_natCast] at this
  have h5 : Nat.Coprime k p.natAbs := (hp.symm).coprime_dvd_left hk1
  have h6 := h5.dvd_of_dvd_mul_left h4
  have h7 : Nat.Coprime k e := h.coprime_dvd_left hk1
  exact h7.eq_one_of_dvd h6
/-- The sum of two fractions as the reference makes it. -/
theorem fadd {p q t : Int} {b c d : Nat} (hb : 0 < b) (hc : 0 < c) (hp : p.natAbs.gcd b = 1) (hq : q.natAbs.gcd c = 1) (hd : d = b.gcd c) (ht : t = p * ((c / d : Nat) : Int) + q * ((b / d : Nat) : Int)) :
    (mkRat p b + mkRat q c).num = t / ((t.natAbs.gcd d : Nat) : Int) ∧ (mkRat p b + mkRat q c).den = b / d * (c / t.natAbs.gcd d) := by
  have hdp : 0 < d := by rw [hd]; exact Nat.gcd_pos_of_pos_left _ hb
  have hcop : Nat.Coprime (b / d) (c / d) := by rw [hd]; exact Nat.coprime_div_gcd_div_gcd (by rw [← hd]; exact hdp)
  have hdb : d ∣ b := by rw [hd]; exact Nat.gcd_dvd_left _ _
  have hdc : d ∣ c := by rw [hd]; exact Nat.gcd_dvd_right _ _
  obtain ⟨b', rfl⟩ := hdb
  obtain ⟨c', rfl⟩ := hdc
  rw [Nat.mul_div_cancel_left _ hdp] at hcop ht ⊢
  rw [Nat.mul_div_cancel_left _ hdp] at hcop ht
  have hb' : 0 < b' := Nat.pos_of_ne_zero fun e => by subst e; simp at hb
  have hc' : 0 < c' := Nat.pos_of_ne_zero fun e => by subst e; simp at hc
  have h1 : Nat.Coprime b' t.natAbs := gcd_mix (p := p) (q := q) (e := c') (Nat.Coprime.coprime_dvd_right (Nat.dvd_mul_left b' d) hp) hcop ht
  have h2 : Nat.Coprime c' t.natAbs := gcd_mix (p := q) (q := p) (e := b') (Nat.Coprime.coprime_dvd_right (Nat.dvd_mul_left c' d) hq) hcop.symm (by rw [ht, Int.add_comm])
  have hg : t.natAbs.gcd (b' * c' * d) = t.natAbs.gcd d := Nat.Coprime.gcd_mul_left_cancel_right d (Nat.Coprime.mul_left h1 h2)
  have hD : b' * c' * d ≠ 0 := Nat.ne_of_gt (Nat.mul_pos (Nat.mul_pos hb' hc') hdp)
  have hsum : mkRat p (d * b') + mkRat q (d * c') = mkRat t (b' * c' * d) := by
    rw [Rat.mkRat_add_mkRat _ _ (Nat.ne_of_gt hb) (Nat.ne_of_gt hc), Rat.mkRat_eq_iff (Nat.ne_of_gt (Nat.mul_pos hb hc)) hD, ht]
    simp only [Int.natCast_mul]
    grind
  rw [hsum, mk_num hD, mk_den hD, hg]
  refine ⟨rfl, ?_⟩
  obtain ⟨m, hm⟩ : t.natAbs.gcd d ∣ d := Nat.gcd_dvd_right _ _
  have hgp : 0 < t.natAbs.gcd d := Nat.gcd_pos_of_pos_right _ hdp
  generalize t.natAbs.gcd d = g at hm hgp
  subst hm
  rw [show b' * c' * (g * m) = g * (b' * (c' * m)) from by grind, Nat.mul_div_cancel_left _ hgp, show g * m * c' = g * (c' * m) from by grind, Nat.mul_div_cancel_left _ hgp]
/-- The product of two fractions as the reference makes it. -/
theorem fmul {p q : Int} {b c : Nat} (hb : 0 < b) (hc : 0 < c) (hp : p.natAbs.gcd b = 1) (hq : q.natAbs.gcd c = 1) :
    (mkRat p b * mkRat q c).num = (mkRat p c).num * (mkRat q b).num ∧ (mkRat p b * mkRat q c).den = (mkRat p c).den * (mkRat q b).den := by
  have e : mkRat p b * mkRat q c = mkRat p c * mkRat q b := by
    rw [Rat.mkRat_mul_mkRat, Rat.mkRat_mul_mkRat, Nat.mul_comm b c]
  rw [e]
  have h1 : Nat.Coprime (mkRat p c).num.natAbs (mkRat p c).den := (mkRat p c).reduced
  have h2 : Nat.Coprime (mkRat q b).num.natAbs (mkRat q b).den := (mkRat q b).reduced
  have h3 : (mkRat p c).num.natAbs ∣ p.natAbs := by rw [mk_abs (Nat.ne_of_gt hc)]; exact Nat.div_dvd_of_dvd (Nat.gcd_dvd_left _ _)
  have h4 : (mkRat q b).den ∣ b := by rw [mk_den (Nat.ne_of_gt hb)]; exact Nat.div_dvd_of_dvd (Nat.gcd_dvd_right _ _)
  have h5 : (mkRat q b).num.natAbs ∣ q.natAbs := by rw [mk_abs (Nat.ne_of_gt hb)]; exact Nat.div_dvd_of_dvd (Nat.gcd_dvd_left _ _)
  have h6 : (mkRat p c).den ∣ c := by rw [mk_den (Nat.ne_of_gt hc)]; exact Nat.div_dvd_of_dvd (Nat.gcd_dvd_right _ _)
  have h7 : Nat.Coprime (mkRat p c).num.natAbs (mkRat q b).den := (Nat.Coprime.coprime_dvd_left h3 hp).coprime_dvd_right h4
  have h8 : Nat.Coprime (mkRat q b).num.natAbs (mkRat p c).den := (Nat.Coprime.coprime_dvd_left h5 hq).coprime_dvd_right h6
  have hcop : Nat.gcd ((mkRat p c).num * (mkRat q b).num).natAbs ((mkRat p c).den * (mkRat q b).den) = 1 := by
    rw [Int.natAbs_mul]
    exact Nat.Coprime.mul_left (Nat.Coprime.mul_right h1 h7) (Nat.Coprime.mul_right h8 h2)
  have hne : (mkRat p c).den * (mkRat q b).den ≠ 0 := Nat.ne_of_gt (Nat.mul_pos (Rat.den_pos _) (Rat.den_pos _))
  rw [rat_mul]
  exact rat_of hne hcop
/-- Wide products by halves. -/
theorem wide_mul (h xh xl yh yl l1 l0 o1 o0 t1 t0 m1 m0 : Nat) (hl : xl * yl = l1 * h + l0) (ho : xh * yl = o1 * h + o0) (ht : xl * yh = t1 * h + t0) (hm : l1 + o0 + t0 = m1 * h + m0) :
    (xh * h + xl) * (yh * h + yl) = (xh * yh + o1 + t1 + m1) * (h * h) + (m0 * h + l0) := by
  have e : (xh * h + xl) * (yh * h + yl) = xh * yh * (h * h) + (xh * yl) * h + (xl * yh) * h + xl * yl := by grind
  rw [e, hl, ho, ht]
  have e2 : (o1 * h + o0) * h + (t1 * h + t0) * h + l1 * h = (o1 + t1) * (h * h) + (l1 + o0 + t0) * h := by grind
  have e3 : (l1 + o0 + t0) * h = m1 * (h * h) + m0 * h := by rw [hm]; grind
  grind
end Go.Proofs.YtaneocedklnajaaGreat

import Derived.Test.YtklnfhjgbmfilaaRatQ
/- The reference's way to add and to multiply fractions gives the sum and the product in lowest terms: plain facts. No condition. -/
namespace Go.Proofs.Ytklnfhjgbmfilaa
set_option linter.unusedVariables false

/-- The numerator over the common denominator shares nothing with what a denominator has alone. -/
theorem gcd_mix {p q t : Int} {b e : Nat} (hp : Nat.Coprime p.natAbs b) (h : Nat.Coprime b e) (ht : t = p * e + q * b) : Nat.Coprime b t.natAbs := by
  have hk1 : b.gcd t.natAbs ∣ b := Nat.gcd_dvd_left _ _
  have hk2 : b.gcd t.natAbs ∣ t.natAbs := Nat.gcd_dvd_right _ _
  unfold Nat.Coprime
  generalize b.gcd t.natAbs = k at hk1 hk2
  have h1 : (k : Int) ∣ t := Int.ofNat_dvd_left.2 hk2
  have h2 : (k : Int) ∣ q * b := Int.dvd_mul_of_dvd_right (Int.ofNat_dvd.2 hk1)
  have h3 : (k : Int) ∣ p * e := by
    rw [ht, Int.add_comm] at h1
    exact (Int.dvd_add_right h2).1 h1
  have h4 : k ∣ p.natAbs * e := by
    have := Int.ofNat_dvd_left.1 h3
    rwa [Int.natAbs_mul, Int.natAbs_natCast] at this
  have h5 : Nat.Coprime k p.natAbs := (hp.symm).coprime_dvd_left hk1
  have h6 := h5.dvd_of_dvd_mul_left h4
  have h7 : Nat.Coprime k e := h.coprime_dvd_left hk1
  exact h7.eq_one_of_dvd h6
/-- The sum of two fractions as the reference makes it. -/
theorem fadd {p q t : Int} {b c d : Nat} (hb : 0 < b) (hc : 0 < c) (hp : p.natAbs.gcd b = 1) (hq : q.natAbs.gcd c = 1) (hd : d = b.gcd c) (ht : t = p * ((c / d : Nat) : Int) + q * ((b / d : Nat) : Int)) :
    (mkRat p b + mkRat q c).num = t / ((t.natAbs.gcd d : Nat) : Int) ∧ (mkRat p b + mkRat q c).den = b / d * (c / t.natAbs.gcd d) := by
  have hdp : 0 < d := by rw [hd]; exact Nat.gcd_pos_of_pos_left _ hb
  have hcop : Nat.Coprime (b / d) (c / d) := by rw [hd]; exact Nat.coprime_div_gcd_div_gcd (by rw [← hd]; exact hdp)
  have hdb : d ∣ b := by rw [hd]; exact Nat.gcd_dvd_left _ _
  have hdc : d ∣ c := by rw [hd]; exact Nat.gcd_dvd_right _ _
  obtain ⟨b', rfl⟩ := hdb
  obtain ⟨c', rfl⟩ := hdc
  rw [Nat.mul_div_cancel_left _ hdp] at hcop ht ⊢
  rw [Nat.mul_div_cancel_left _ hdp] at hcop ht
  have hb' : 0 < b' := Nat.pos_of_ne_zero fun e => by subst e; simp at hb
  have hc' : 0 < c' := Nat.pos_of_ne_zero fun e => by subst e; simp at hc
  have h1 : Nat.Coprime b' t.natAbs := gcd_mix (p := p) (q := q) (e := c') (Nat.Coprime.coprime_dvd_right (Nat.dvd_mul_left b' d) hp) hcop ht
  have h2 : Nat.Coprime c' t.natAbs := gcd_mix (p := q) (q := p) (e := b') (Nat.Coprime.coprime_dvd_right (Nat.dvd_mul_left c' d) hq) hcop.symm (by rw [ht, Int.add_comm])
  have hg : t.natAbs.gcd (b' * c' * d) = t.natAbs.gcd d := Nat.Coprime.gcd_mul_left_cancel_right d (Nat.Coprime.mul_left h1 h2)
  have hD : b' * c' * d ≠ 0 := Nat.ne_of_gt (Nat.mul_pos (Nat.mul_pos hb' hc') hdp)
  have hsum : mkRat p (d * b') + mkRat q (d * c') = mkRat t (b' * c' * d) := by
    rw [Rat.mkRat_add_mkRat _ _ (Nat.ne_of_gt hb) (Nat.ne_of_gt hc), Rat.mkRat_eq_iff (Nat.ne_of_gt (Nat.mul_pos hb hc)) hD, ht]
    simp only [Int.natCast_mul]
    grind
  rw [hsum, mk_num hD, mk_den hD, hg]
  refine ⟨rfl, ?_⟩
  obtain ⟨m, hm⟩ : t.natAbs.gcd d ∣ d := Nat.gcd_dvd_right _ _
  have hgp : 0 < t.natAbs.gcd d := Nat.gcd_pos_of_pos_right _ hdp
  generalize t.natAbs.gcd d = g at hm hgp
  subst hm
  rw [show b' * c' * (g * m) = g * (b' * (c' * m)) from by grind, Nat.mul_div_cancel_left _ hgp, show g * m * c' = g * (c' * m) from by grind, Nat.mul_div_cancel_left _ hgp]
/-- The product of two fractions as the reference makes it. -/
theorem fmul {p q : Int} {b c : Nat} (hb : 0 < b) (hc : 0 < c) (hp : p.natAbs.gcd b = 1) (hq : q.natAbs.gcd c = 1) :
    (mkRat p b * mkRat q c).num = (mkRat p c).num * (mkRat q b).num ∧ (mkRat p b * mkRat q c).den = (mkRat p c).den * (mkRat q b).den := by
  have e : mkRat p b * mkRat q c = mkRat p c * mkRat q b := by
    rw [Rat.mkRat_mul_mkRat, Rat.mkRat_mul_mkRat, Nat.mul_comm b c]
  rw [e]
  have h1 : Nat.Coprime (mkRat p c).num.natAbs (mkRat p c).den := (mkRat p c).reduced
  have h2 : Nat.Coprime (mkRat q b).num.natAbs (mkRat q b).den := (mkRat q b).reduced
  have h3 : (mkRat p c).num.natAbs ∣ p.natAbs := by rw [mk_abs (Nat.ne_of_gt hc)]; exact Nat.div_dvd_of_dvd (Nat.gcd_dvd_left _ _)
  have h4 : (mkRat q b).den ∣ b := by rw [mk_den (Nat.ne_of_gt hb)]; exact Nat.div_dvd_of_dvd (Nat.gcd_dvd_right _ _)
  have h5 : (mkRat q b).num.natAbs ∣ q.natAbs := by rw [mk_abs (Nat.ne_of_gt hb)]; exact Nat.div_dvd_of_dvd (Nat.gcd_dvd_left _ _)
  have h6 : (mkRat p c).den ∣ c := by rw [mk_den (Nat.ne_of_gt hc)]; exact Nat.div_dvd_of_dvd (Nat.gcd_dvd_right _ _)
  have h7 : Nat.Coprime (mkRat p c).num.natAbs (mkRat q b).den := (Nat.Coprime.coprime_dvd_left h3 hp).coprime_dvd_right h4
  have h8 : Nat.Coprime (mkRat q b).num.natAbs (mkRat p c).den := (Nat.Coprime.coprime_dvd_left h5 hq).coprime_dvd_right h6
  have hcop : Nat.gcd ((mkRat p c).num * (mkRat q b).num).natAbs ((mkRat p c).den * (mkRat q b).den) = 1 := by
    rw [Int.natAbs_mul]
    exact Nat.Coprime.mul_left (Nat.Coprime.mul_right h1 h7) (Nat.Coprime.mul_right h8 h2)
  have hne : (mkRat p c).den * (mkRat q b).den ≠ 0 := Nat.ne_of_gt (Nat.mul_pos (Rat.den_pos _) (Rat.den_pos _))
  rw [rat_mul]
  exact rat_of hne hcop
/-- Wide products by halves. -/
theorem wide_mul (h xh xl yh yl l1 l0 o1 o0 t1 t0 m1 m0 : Nat) (hl : xl * yl = l1 * h + l0) (ho : xh * yl = o1 * h + o0) (ht : xl * yh = t1 * h + t0) (hm : l1 + o0 + t0 = m1 * h + m0) :
    (xh * h + xl) * (yh * h + yl) = (xh * yh + o1 + t1 + m1) * (h * h) + (m0 * h + l0) := by
  have e : (xh * h + xl) * (yh * h + yl) = xh * yh * (h * h) + (xh * yl) * h + (xl * yh) * h + xl * yl := by grind
  rw [e, hl, ho, ht]
  have e2 : (o1 * h + o0) * h + (t1 * h + t0) * h + l1 * h = (o1 + t1) * (h * h) + (l1 + o0 + t0) * h := by grind
  have e3 : (l1 + o0 + t0) * h = m1 * (h * h) + m0 * h := by rw [hm]; grind
  grind
end Go.Proofs.Ytklnfhjgbmfilaa

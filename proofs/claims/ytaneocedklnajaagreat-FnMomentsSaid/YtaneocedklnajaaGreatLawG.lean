import Derived.Test.YtaneocedklnajaaGreatLawTX
import Derived.Test.YtaneocedklnajaaGreatLawOX
import Derived.Test.YtaneocedklnajaaGreatBinX
/- A law of counts is valid, and the chances of its values: plain facts. No condition. -/
namespace Go.Proofs.YtaneocedklnajaaGreat
open Go.RowKit
set_option linter.unusedVariables false

def psum (cs : List Int) : Nat → Int
  | 0 => 0
  | m + 1 => psum cs m + cs.getD m 0
theorem psum_mono {cs : List Int} {m : Nat} (h : ∀ i, i < m → 0 ≤ cs.getD i 0) : ∀ j, j ≤ m → 0 ≤ psum cs j ∧ psum cs j ≤ psum cs m := by
  induction m with
  | zero => intro j hj; obtain rfl : j = 0 := by omega
            exact ⟨Int.le_refl _, Int.le_refl _⟩
  | succ m ih =>
    have ih2 := ih (fun i hi => h i (by omega))
    have hm := h m (by omega)
    intro j hj
    rcases Nat.lt_or_ge j (m + 1) with h1 | h1
    · have := ih2 j (by omega)
      rw [psum]; omega
    · obtain rfl : j = m + 1 := by omega
      have := ih2 m (by omega)
      rw [psum]; omega
theorem psum_map0 (f : Nat → Nat) (cs : List Int) : ∀ m, (∀ i, i < m → cs.getD i 0 = ((f i : Nat) : Int)) → psum cs m = ((sum0 f m : Nat) : Int)
  | 0, _ => rfl
  | m + 1, h => by
    rw [psum, sum0, psum_map0 f cs m (fun i hi => h i (by omega)), h m (by omega), Int.natCast_add]
theorem getA {xs ys : List Int} {i : Nat} (h : i < xs.length) : (xs ++ ys).getD i 0 = xs.getD i 0 := by
  simp only [List.getD_eq_getElem?_getD, List.getElem?_append_left h]
theorem getB {xs ys : List Int} {i : Nat} (h : xs.length ≤ i) : (xs ++ ys).getD i 0 = ys.getD (i - xs.length) 0 := by
  simp only [List.getD_eq_getElem?_getD, List.getElem?_append_right h]
theorem frN_old {fs : List Int} {p q : Int} {n k : Nat} (hl : fs.length = n * 2) (hk : k < n) : frN (fs ++ [p, q]) k = frN fs k := getA (by omega)
theorem frD_old {fs : List Int} {p q : Int} {n k : Nat} (hl : fs.length = n * 2) (hk : k < n) : frD (fs ++ [p, q]) k = frD fs k := getA (by omega)
theorem frN_new {fs : List Int} {p q : Int} {n : Nat} (hl : fs.length = n * 2) : frN (fs ++ [p, q]) n = p := by
  unfold frN; rw [getB (by omega), show n * 2 - fs.length = 0 by omega]; rfl
theorem frD_new {fs : List Int} {p q : Int} {n : Nat} (hl : fs.length = n * 2) : frD (fs ++ [p, q]) n = q := by
  unfold frD; rw [getB (by omega), show n * 2 + 1 - fs.length = 1 by omega]; rfl
theorem sumR_old {fs : List Int} {p q : Int} {n : Nat} (hl : fs.length = n * 2) : ∀ k, k ≤ n → sumR (fs ++ [p, q]) k = sumR fs k
  | 0, _ => rfl
  | k + 1, h => by
    rw [sumR, sumR, sumR_old hl k (by omega)]
    unfold frR
    rw [frN_old hl (by omega), frD_old hl (by omega)]
theorem mk_plus {a b : Int} {d : Nat} (hd : d ≠ 0) : mkRat a d + mkRat b d = mkRat (a + b) d := by
  rw [Rat.mkRat_add_mkRat _ _ hd hd, ← Int.add_mul, Rat.mkRat_mul_right hd]
theorem mk_fit {s : Int} {d : Nat} (hd : 0 < d) (h0 : 0 ≤ s) (h1 : s ≤ 1000000000000000000) (h2 : d ≤ 1000000000000000000) : fitR (mkRat s d) = true := by
  unfold fitR
  rw [mk_abs (by omega), mk_den (by omega)]
  have e1 := Nat.div_le_self s.natAbs (s.natAbs.gcd d)
  have e2 := Nat.div_le_self d (s.natAbs.gcd d)
  rw [decide_eq_true (by omega), decide_eq_true (by omega)]; rfl
theorem fit_vF {r : Rat} (h : fitR r = true) : vF r.num ((r.den : Nat) : Int) = true := by
  obtain ⟨h1, h2, h3, h4⟩ := fit_parts h
  rw [vF_iff]
  refine ⟨by omega, by omega, ?_⟩
  rw [Int.toNat_natCast]; exact h4
theorem mk_numpos {s : Int} {d : Nat} (hd : 0 < d) (h0 : 0 < s) : 0 < (mkRat s d).num := by
  have h1 := mk_neg (n := s) (d := d) (by omega)
  rw [decide_eq_decide] at h1
  rcases Int.lt_trichotomy (mkRat s d).num 0 with h | h | h
  · have := h1.1 h; omega
  · exfalso
    have h2 : mkRat s d = 0 := Rat.num_eq_zero.1 h
    rw [Rat.mkRat_eq_zero (by omega)] at h2
    omega
  · exact h
/-- What holds of a law of the first m counts. -/
structure CtQ (first : Int) (cs : List Int) (all m : Nat) (vs fs : List Int) : Prop where
  len : fs.length = vs.length * 2
  val : ∀ k, k < vs.length → first ≤ vs.getD k 0 ∧ vs.getD k 0 < first + m
  inc : ∀ k, k + 1 < vs.length → vs.getD k 0 < vs.getD (k + 1) 0
  fr : ∀ k, k < vs.length → ∃ i, i < m ∧ 0 < cs.getD i 0 ∧ vs.getD k 0 = first + i ∧ frN fs k = (mkRat (cs.getD i 0) all).num ∧ frD fs k = ((mkRat (cs.getD i 0) all).den : Nat)
  has : ∀ i, i < m → 0 < cs.getD i 0 → ∃ k, k < vs.length ∧ vs.getD k 0 = first + i
  sum : ∀ k, k ≤ vs.length → ∃ j, j ≤ m ∧ sumR fs k = mkRat (psum cs j) all
  tot : sumR fs vs.length = mkRat (psum cs m) all
  le : vs.length ≤ m
theorem ctQ (first : Int) (cs : List Int) (all : Nat) (ha : 0 < all) : ∀ m, (∀ i, i < m → 0 ≤ cs.getD i 0) → CtQ first cs all m (lvT first cs m) (lfT cs all m)
  | 0, _ => by
    have hz : (0 : Rat) = mkRat (psum cs 0) all := by rw [psum, Rat.zero_mkRat]
    refine ⟨rfl, fun k hk => absurd hk (Nat.not_lt_zero _), fun k hk => absurd hk (Nat.not_lt_zero _), fun k hk => absurd hk (Nat.not_lt_zero _), fun k hk => absurd hk (Nat.not_lt_zero _), fun k hk => ⟨0, Nat.le_refl _, ?_⟩, hz, Nat.le_refl _⟩
    obtain rfl : k = 0 := Nat.le_zero.1 hk
    exact hz
  | m + 1, h => by
    have ih := ctQ first cs all ha m (fun i hi => h i (by omega))
    have h0 := h m (by omega)
    rw [lvT, lfT]
    generalize lvT first cs m = vs at *
    generalize lfT cs all m = fs at *
    by_cases hc : 0 < cs.getD m 0
    · rw [if_pos hc, if_pos hc]
      obtain ⟨r, hr⟩ : ∃ r, mkRat (cs.getD m 0) all = r := ⟨_, rfl⟩
      rw [hr]
      have hl : (vs ++ [first + (m : Int)]).length = vs.length + 1 := by simp
      refine ⟨by simp [ih.len]; omega, fun k hk => ?_, fun k hk => ?_, fun k hk => ?_, fun i hi hci => ?_, fun k hk => ?_, ?_, ?_⟩
      · rw [hl] at hk
        rcases Nat.lt_or_ge k vs.length with h1 | h1
        · rw [getA h1]; have := ih.val k h1; omega
        · rw [getB h1, show k - vs.length = 0 by omega]
          simp only [List.getD_cons_zero]; omega
      · rw [hl] at hk
        rw [getA (show k < vs.length by omega)]
        rcases Nat.lt_or_ge (k + 1) vs.length with h1 | h1
        · rw [getA h1]; exact ih.inc k h1
        · rw [getB h1, show k + 1 - vs.length = 0 by omega]
          have := ih.val k (by omega)
          simp only [List.getD_cons_zero]; omega
      · rw [hl] at hk
        rcases Nat.lt_or_ge k vs.length with h1 | h1
        · obtain ⟨i, a, b, c, d, e⟩ := ih.fr k h1
          exact ⟨i, by omega, b, by rw [getA h1]; exact c, by rw [frN_old ih.len h1]; exact d, by rw [frD_old ih.len h1]; exact e⟩
        · obtain rfl : k = vs.length := by omega
          exact ⟨m, by omega, hc, by rw [getB (Nat.le_refl _), Nat.sub_self]; rfl, by rw [frN_new ih.len, hr], by rw [frD_new ih.len, hr]⟩
      · rcases Nat.lt_or_ge i m with h1 | h1
        · obtain ⟨k, a, b⟩ := ih.has i h1 hci
          exact ⟨k, by omega, by rw [getA a]; exact b⟩
        · obtain rfl : i = m := by omega
          exact ⟨vs.length, by omega, by rw [getB (Nat.le_refl _), Nat.sub_self]; rfl⟩
      · rw [hl] at hk
        rcases Nat.lt_or_ge k (vs.length + 1) with h1 | h1
        · obtain ⟨j, a, b⟩ := ih.sum k (by omega)
          exact ⟨j, by omega, by rw [sumR_old ih.len k (by omega)]; exact b⟩
        · obtain rfl : k = vs.length + 1 := by omega
          refine ⟨m + 1, Nat.le_refl _, ?_⟩
          rw [sumR, sumR_old ih.len _ (Nat.le_refl _), ih.tot]
          unfold frR
          rw [frN_new ih.len, frD_new ih.len, Int.toNat_natCast, mk_self, ← hr, mk_plus (by omega)]
          rfl
      · rw [hl, sumR, sumR_old ih.len _ (Nat.le_refl _), ih.tot]
        unfold frR
        rw [frN_new ih.len, frD_new ih.len, Int.toNat_natCast, mk_self, ← hr, mk_plus (by omega)]
        rfl
      · rw [hl]; have := ih.le; omega
    · rw [if_neg hc, if_neg hc]
      have hz : psum cs (m + 1) = psum cs m := by rw [psum]; omega
      refine ⟨ih.len, fun k hk => ?_, ih.inc, fun k hk => ?_, fun i hi hci => ?_, fun k hk => ?_, ?_, ?_⟩
      · have := ih.val k hk; omega
      · obtain ⟨i, a, b, c, d, e⟩ := ih.fr k hk
        exact ⟨i, by omega, b, c, d, e⟩
      · rcases Nat.lt_or_ge i m with h1 | h1
        · exact ih.has i h1 hci
        · obtain rfl : i = m := by omega
          omega
      · obtain ⟨j, a, b⟩ := ih.sum k hk
        exact ⟨j, by omega, b⟩
      · rw [hz]; exact ih.tot
      · have := ih.le; omega
/-- A law of counts that add up to all is valid. -/
theorem lawQ_counts {first : Int} {cs : List Int} {all m : Nat} (ha : 0 < all) (ha2 : all ≤ 1000000000000000000) (h : ∀ i, i < m → 0 ≤ cs.getD i 0) (hs : psum cs m = (all : Int)) (hm : m ≤ 64) (hf : -1000000 ≤ first ∧ first ≤ 1000000) :
    LawQ (lvT first cs m) (lfT cs all m) (lvT first cs m).length := by
  have hq := ctQ first cs all ha m h
  have hp := psum_mono h
  have hfit : ∀ k, k ≤ (lvT first cs m).length → fitR (sumR (lfT cs all m) k) = true := fun k hk => by
    obtain ⟨j, a, b⟩ := hq.sum k hk
    have := hp j a
    rw [b]; exact mk_fit ha (by omega) (by omega) ha2
  have hone : sumR (lfT cs all m) (lvT first cs m).length = 1 := by
    rw [hq.tot, hs]
    have := Rat.mkRat_mul_right (n := 1) (d := 1) (a := all) (by omega)
    rw [Int.one_mul, Nat.one_mul] at this
    rw [this]; rfl
  have hci : ∀ i, i < m → cs.getD i 0 ≤ 1000000000000000000 := fun i hi => by
    have h1 := hp i (by omega)
    have h2 := hp (i + 1) (by omega)
    rw [psum] at h2; omega
  refine ⟨?_, by have := hq.le; omega, fun k hk => by have := hq.val k hk; omega, hq.inc, fun k hk => ?_, fun k hk => ?_, hfit, hone⟩
  · rcases Nat.eq_zero_or_pos (lvT first cs m).length with h1 | h1
    · rw [h1] at hone
      have hone2 : (0 : Rat) = 1 := hone
      exact absurd hone2 (by decide)
    · omega
  · obtain ⟨i, a, b, c, d, e⟩ := hq.fr k hk
    rw [d, e]; exact fit_vF (mk_fit ha (by omega) (hci i a) ha2)
  · obtain ⟨i, a, b, c, d, e⟩ := hq.fr k hk
    rw [d]; exact mk_numpos ha b
/-- The chance of a value of such a law. -/
theorem chP_counts {first : Int} {cs : List Int} {all m : Nat} (ha : 0 < all) (h : ∀ i, i < m → 0 ≤ cs.getD i 0) {i : Nat} (hi : i < m) :
    chP (lvT first cs m) (lfT cs all m) (lvT first cs m).length (first + i) = ((mkRat (cs.getD i 0) all).num, (((mkRat (cs.getD i 0) all).den : Nat) : Int)) := by
  have hq := ctQ first cs all ha m h
  rcases Int.lt_or_eq_of_le (h i hi) with hc | hc
  · obtain ⟨k, hk, hv⟩ := hq.has i hi hc
    have hne : ∀ j, j < k → ((lvT first cs m).getD j 0 == (first + i)) = false := fun j hj => by
      rw [beq_eq_false_iff_ne]
      have hm : ∀ t, t < (lvT first cs m).length → j < t → (lvT first cs m).getD j 0 < (lvT first cs m).getD t 0 := fun t => by
        induction t with
        | zero => intro _ h2; omega
        | succ t ih =>
          intro h1 h2
          have := hq.inc t h1
          rcases Nat.lt_or_ge j t with h3 | h3
          · have := ih (by omega) h3; omega
          · obtain rfl : j = t := by omega
            exact this
      have := hm k hk hj
      omega
    rw [chP_first hk hv hne]
    obtain ⟨i2, a, b, c, d, e⟩ := hq.fr k hk
    obtain rfl : i2 = i := by omega
    rw [d, e]
  · rw [← hc, Rat.zero_mkRat]
    refine chP_none (fun k hk => ?_)
    rw [beq_eq_false_iff_ne]
    obtain ⟨i2, a, b, c, d, e⟩ := hq.fr k hk
    intro h2
    obtain rfl : i2 = i := by omega
    omega
theorem lvT_len2 {first : Int} {cs : List Int} {all : Nat} : ∀ m, (lfT cs all m).length = (lvT first cs m).length * 2
  | 0 => rfl
  | m + 1 => by
    rw [lvT, lfT]
    have := lvT_len2 (first := first) (cs := cs) (all := all) m
    split
    · simp [this]; omega
    · exact this
/-- Such a law is found valid. -/
theorem lawOk_of {vs fs : List Int} {n : Nat} (hl : vs.length = n) (h : LawQ vs fs n) : lawOk vs fs n n = true := by
  unfold lawOk
  have e1 : inR n 1 64 = true := by have := h.n1; have := h.n64; simp [inR]; omega
  have e2 : allR vs (-1000000000000000) 1000000000000000 = true := by
    unfold allR
    rw [List.all_eq_true]
    intro x hx
    obtain ⟨k, hk, rfl⟩ := List.getElem_of_mem hx
    have := h.rng k (by omega)
    rw [getD_eq _ _ hk] at this
    simp [inR]; omega
  have e3 : incr vs = true := allB_of (fun k hk => by simpa using h.inc k (by omega))
  have e4 : allVF fs n = true := allB_of h.ok
  have e5 : allPos fs n = true := allB_of (fun k hk => by simpa using h.pos k hk)
  have e6 : sumOk fs n = true := allB_of (fun k hk => h.fit (k + 1) (by omega))
  rw [e1, e2, e3, e4, e5, e6, h.one]
  simp
end Go.Proofs.YtaneocedklnajaaGreat

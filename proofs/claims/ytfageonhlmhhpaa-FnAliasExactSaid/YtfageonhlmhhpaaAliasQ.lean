import Derived.Test.YtfageonhlmhhpaaAliasP
/- The alias table as plain mathematics: every face comes up as often as its weight times the number of faces. -/
namespace Go.Proofs.Ytfageonhlmhhpaa.Al
set_option linter.unusedVariables false

/-- What column i gives face k over its cut. -/
def cont (T : Int) (s : St) (k i : Nat) : Int := if s.ot.getD i 0 = (k : Int) then T - s.ct.getD i 0 else 0
/-- What face k has: its own share or cut, and what others give it. -/
def base (s : St) (k : Nat) : Int := if s.dn.getD k false then s.ct.getD k 0 else s.sh.getD k 0
def got (T : Int) (s : St) (n k : Nat) : Int := base s k + sumTo (cont T s k) n

theorem base_dn {s : St} {k : Nat} (h : s.dn.getD k false = true) : base s k = s.ct.getD k 0 := by unfold base; rw [h]; rfl
theorem base_nd {s : St} {k : Nat} (h : s.dn.getD k false = false) : base s k = s.sh.getD k 0 := by unfold base; rw [h]; rfl
theorem cont_eq {T : Int} {s : St} {k i : Nat} (h : s.ot.getD i 0 = (k : Int)) : cont T s k i = T - s.ct.getD i 0 := if_pos h
theorem cont_ne {T : Int} {s : St} {k i : Nat} (h : ¬ s.ot.getD i 0 = (k : Int)) : cont T s k i = 0 := if_neg h

theorem got_next {n : Nat} {T : Int} {s : St} (h : Inv n T s) {i j : Nat} (hl : low T s = some i) (hh : high T s = some j) (k : Nat) (hk : k < n) : got T (next T s i j) n k = got T s n k := by
  obtain ⟨i1, i2, i3, _⟩ := low_some hl
  obtain ⟨j1, j2, j3, _⟩ := high_some hh
  rw [h.shl] at i1 j1
  have hij : i ≠ j := by rintro rfl; omega
  have hci : (next T s i j).ct.getD i 0 = s.sh.getD i 0 := getD_set_eq _ _ _ _ (by rw [h.ctl]; exact i1)
  have hoi : (next T s i j).ot.getD i 0 = (j : Int) := getD_set_eq _ _ _ _ (by rw [h.otl]; exact i1)
  have hcn : ∀ m, m ≠ i → (next T s i j).ct.getD m 0 = s.ct.getD m 0 := fun m hm => getD_set_ne _ _ _ _ _ (Ne.symm hm)
  have hon : ∀ m, m ≠ i → (next T s i j).ot.getD m 0 = s.ot.getD m 0 := fun m hm => getD_set_ne _ _ _ _ _ (Ne.symm hm)
  have hdi : (next T s i j).dn.getD i false = true := getD_set_eq _ _ _ _ (by rw [h.dnl]; exact i1)
  have hdn : ∀ m, m ≠ i → (next T s i j).dn.getD m false = s.dn.getD m false := fun m hm => getD_set_ne _ _ _ _ _ (Ne.symm hm)
  have hsj : (next T s i j).sh.getD j 0 = s.sh.getD j 0 - (T - s.sh.getD i 0) := getD_set_eq _ _ _ _ (by rw [h.shl]; exact j1)
  have hsn : ∀ m, m ≠ j → (next T s i j).sh.getD m 0 = s.sh.getD m 0 := fun m hm => getD_set_ne _ _ _ _ _ (Ne.symm hm)
  have hsum : sumTo (cont T (next T s i j) k) n = sumTo (cont T s k) n - cont T s k i + cont T (next T s i j) k i :=
    sumTo_upd _ _ n i i1 fun m _ hm => by unfold cont; rw [hcn m hm, hon m hm]
  have h0 : cont T s k i = 0 := by
    by_cases hc : s.ot.getD i 0 = (k : Int)
    · rw [cont_eq hc, h.ctn i i1 i2]; omega
    · exact cont_ne hc
  unfold got
  rw [hsum, h0]
  by_cases hkj : k = j
  · subst hkj
    rw [base_nd ((hdn k (Ne.symm hij)).trans j2), base_nd j2, hsj, cont_eq hoi, hci]
    omega
  · rw [cont_ne (by rw [hoi]; omega)]
    by_cases hki : k = i
    · subst hki
      rw [base_dn hdi, base_nd i2, hci]; omega
    · cases hd : s.dn.getD k false with
      | true => rw [base_dn hd, base_dn ((hdn k hki).trans hd), hcn k hki]; omega
      | false => rw [base_nd hd, base_nd ((hdn k hki).trans hd), hsn k hkj]; omega

theorem got_run {n : Nat} {T : Int} (k : Nat) (hk : k < n) : ∀ (f : Nat) {s : St}, Inv n T s → got T (run T f s) n k = got T s n k
  | 0, s, h => rfl
  | f + 1, s, h => by
    cases hl : low T s with
    | none => rw [run_low_none hl]
    | some i =>
      obtain ⟨j, hh⟩ := high_exists h hl
      rw [run_step hl hh, got_run k hk f (inv_next h hl hh), got_next h hl hh k hk]

theorem sumTo_zero (f : Nat → Int) (n : Nat) (h : ∀ i, i < n → f i = 0) : sumTo f n = 0 := by
  induction n with
  | zero => rfl
  | succ n ih => simp only [sumTo]; rw [ih fun i hi => h i (by omega), h n (by omega)]; omega

theorem got_start (ws : List Int) (T : Int) (k : Nat) (hk : k < ws.length) : got T (start ws T) ws.length k = (ws.length : Int) * ws.getD k 0 := by
  have hdn : (start ws T).dn.getD k false = false := by
    simp only [start, List.getD, List.getElem?_replicate]; split <;> rfl
  unfold got
  rw [base_nd hdn, sumTo_zero _ _ fun i hi => by
    have hc : (start ws T).ct.getD i 0 = T := by simp [start, List.getD, hi]
    by_cases h : (start ws T).ot.getD i 0 = (k : Int)
    · rw [cont_eq h, hc]; omega
    · exact cont_ne h]
  have : (start ws T).sh.getD k 0 = (ws.length : Int) * ws.getD k 0 := by simp [start, List.getD, hk]
  omega

theorem sumTo_nonneg_zero (f : Nat → Int) (n : Nat) (h : ∀ i, i < n → 0 ≤ f i) (hs : sumTo f n = 0) : ∀ i, i < n → f i = 0 := by
  induction n with
  | zero => intro i hi; omega
  | succ n ih =>
    have h1 : 0 ≤ sumTo f n := by
      have := sumTo_le (fun i => - f i) n (fun i hi => by have := h i (by omega); omega)
      have e := sumTo_sub (fun _ => 0) f n
      have e2 : sumTo (fun i => (0 : Int) - f i) n = sumTo (fun i => - f i) n := sumTo_congr _ _ n (fun i _ => by omega)
      have e3 := sumTo_zero (fun _ => (0 : Int)) n (fun _ _ => rfl)
      omega
    have h2 := h n (by omega)
    simp only [sumTo] at hs
    intro i hi
    by_cases hin : i = n
    · subst hin; omega
    · exact ih (fun i hi => h i (by omega)) (by omega) i (by omega)

/-- When nothing is below the total any more, every column that is not done has just the total. -/
theorem share_end {n : Nat} {T : Int} {s : St} (h : Inv n T s) (hl : low T s = none) (k : Nat) (hk : k < n) (hd : s.dn.getD k false = false) : s.sh.getD k 0 = T := by
  have hn := low_none hl
  rw [h.shl] at hn
  have := sumTo_nonneg_zero (over T s) n (fun i hi => by
    cases hdi : s.dn.getD i false with
    | true => rw [over_dn hdi]; omega
    | false =>
      have h1 := hn i hi
      simp only [isLow, hdi, Bool.not_false, Bool.true_and, decide_eq_false_iff_not] at h1
      rw [over_nd hdi]; omega) h.bal k hk
  rw [over_nd hd] at this
  omega

/-- The counts of the law: a column gives its face its cut, and the other face the rest. -/
theorem counted {ws : List Int} {T : Int} (hi : Inv ws.length T (start ws T)) (k : Nat) (hk : k < ws.length) :
    (run T ws.length (start ws T)).ct.getD k 0 + sumTo (cont T (run T ws.length (start ws T)) k) ws.length = (ws.length : Int) * ws.getD k 0 := by
  obtain ⟨hl, hI⟩ := run_done ws.length hi (by rw [left_start]; omega)
  have hg := got_run k hk ws.length hi
  rw [got_start ws T k hk] at hg
  rw [← hg]
  unfold got
  cases hd : (run T ws.length (start ws T)).dn.getD k false with
  | true => rw [base_dn hd]
  | false => rw [base_nd hd, share_end hI hl k hk hd, hI.ctn k hk hd]

end Go.Proofs.Ytfageonhlmhhpaa.Al

import Derived.Test.YtddmglgogjaajaaDyad
/- The program's test of dyadic weights and the reference's agree; the law FnExactIsDyadic. -/
namespace Go.Proofs.Ytddmglgogjaajaa
open Go.RowKit
set_option linter.unusedVariables false

theorem sumL_eq (zs : List Int) (h : allR zs 0 1000000 = true) (hl : zs.length ≤ 1048576) : sumL zs = zs.sum := by
  have key : ∀ k, k ≤ zs.length → sumL (zs.take k) = (zs.take k).sum := by
    intro k
    induction k with
    | zero => intro _; rfl
    | succ k ih =>
      intro hk
      have hk' : k < zs.length := by omega
      rw [sumL_step zs k hk', ih (by omega), take_snoc zs k hk', sum_snoc]
      have hmem : ∀ j, j < zs.length → inR (zs.getD j 0) 0 1000000 = true := fun j hj => by
        rw [getD_eq _ _ hj]; exact (List.all_eq_true.1 h) _ (List.getElem_mem hj)
      have hb := sum_bd (zs.take k) (allR_take zs 0 1000000 k (fun j hj => hmem j (by omega)) (by omega))
      have h2 := hmem k hk'
      simp only [inR, Bool.and_eq_true, decide_eq_true_eq] at h2
      have h3 : (zs.take k).length ≤ 1048576 := by simp; omega
      exact wrap_in _ (by omega) (by omega)
  have := key zs.length (Nat.le_refl _)
  rwa [List.take_length] at this

theorem pow_small : ∀ k, k < 13 → (2 : Int) ^ k ≤ 4096 ∧ 1 ≤ (2 : Int) ^ k := by decide

theorem dy_small' : ∀ i, i < 65 → ∀ j, j < 64 → 1 ≤ 64 * i + j → 64 * i + j < 4097 → (((64 * i + j) &&& (64 * i + j - 1) == 0) = decide (0 ≤ levelOf ((64 * i + j : Nat) : Int))) := by decide +kernel
theorem dy_small (n : Nat) (h : n < 4097) (h1 : 1 ≤ n) : ((n &&& (n - 1) == 0) = decide (0 ≤ levelOf (n : Int))) := by
  have := dy_small' (n / 64) (by omega) (n % 64) (by omega) (by omega) (by omega)
  rwa [show 64 * (n / 64) + n % 64 = n from by omega] at this

theorem levelOf_big (t : Int) (h : 4096 < t) : levelOf t = -1 := by
  have : (List.range 13).find? (fun k => t == (2 : Int) ^ k) = none := by
    rw [List.find?_eq_none]
    intro k hk
    simp only [List.mem_range] at hk
    have := (pow_small k hk).1
    simp; omega
  simp [levelOf, this]

theorem dy_agree (zs : List Int) : isDy zs = decide ((0 : Int) ≤ levelOf (totalR zs)) := by
  have h0 : levelOf 0 = -1 := by decide
  cases h1 : inR zs.length 1 16 with
  | false => simp [isDy, areW, totalR, h1, h0]
  | true =>
    cases h2 : allR zs 0 1000000 with
    | false => simp [isDy, areW, totalR, h1, h2, h0]
    | true =>
      have hlen : zs.length ≤ 16 := by simp [inR] at h1; omega
      have hs := sumL_eq zs h2 (by omega)
      have hb := sum_bd zs h2
      simp only [isDy, areW, totalR, h1, h2, hs, Bool.true_and, Bool.and_self, if_true]
      generalize zs.sum = t at *
      by_cases ht0 : t = 0
      · subst ht0; simp [inR, h0]
      · by_cases hbig : 1000000 < t
        · simp [inR, hbig, h0]; omega
        · have hin : inR t 1 1000000 = true := by simp [inR]; omega
          simp only [hin, Bool.true_and, if_neg hbig]
          obtain ⟨n, rfl⟩ := Int.eq_ofNat_of_zero_le hb.1
          have e : wrap64 ((n : Int) - 1) = ((n - 1 : Nat) : Int) := by rw [wrap_in _ (by omega) (by omega)]; omega
          rw [e, and_i64 n (n - 1) (by omega) (by omega)]
          by_cases hn : n ≤ 4096
          · have := dy_small n (by omega) (by omega)
            rw [← this]
            have hd : decide ((n : Int) ≤ 4096) = true := by simp; omega
            rw [hd, Bool.and_true]
            by_cases hz : n &&& (n - 1) = 0
            · simp [hz]
            · have hz' : ¬ ((n &&& (n - 1) : Nat) : Int) = 0 := by omega
              have e1 : (((n &&& (n - 1) : Nat) : Int) == 0) = false := by simpa using hz'
              have e2 : ((n &&& (n - 1)) == 0) = false := by simpa using hz
              rw [e1, e2]
          · rw [levelOf_big _ (by omega)]
            have hd : decide ((n : Int) ≤ 4096) = false := by simp; omega
            rw [hd, Bool.and_false]
            rfl


end Go.Proofs.Ytddmglgogjaajaa

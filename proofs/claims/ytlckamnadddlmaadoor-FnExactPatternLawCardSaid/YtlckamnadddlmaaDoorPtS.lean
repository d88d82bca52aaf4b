import Derived.Test.YtlckamnadddlmaaDoorPtR
/- What the reference's law of patterns keeps while it walks over its rows. No condition. -/
namespace Go.Proofs.YtlckamnadddlmaaDoor
open Go.RowKit
set_option linter.unusedVariables false

def ctR (L : List (Nat × Nat)) (p : Nat × Nat) : Nat := @List.count _ instBEqOfDecidableEq p L
def bI (b : Bool) : Nat := if b then 1 else 0
/-- What is left when the state k, the bit and the places before these are done. -/
def lfR (k bit places : Nat) (x : (Nat × Nat) × Bool) : Bool := !(decide (x.1.1 < k) || (decide (x.1.1 = k) && (decide (bI x.2 < bit) || (decide (bI x.2 = bit) && decide (x.1.2 < places)))))
theorem lfR_start (x : (Nat × Nat) × Bool) : lfR 0 0 0 x = true := by
  unfold lfR
  simp
theorem lfR_bit {k bit places : Nat} {x : (Nat × Nat) × Bool} (h : x.1.2 < places) : lfR k bit places x = lfR k (bit + 1) 0 x := by
  unfold lfR
  simp only [h, decide_true, Bool.and_true, Nat.not_lt_zero, decide_false, Bool.and_false, Bool.or_false]
  congr 3
  rw [Bool.eq_iff_iff]
  simp only [Bool.or_eq_true, decide_eq_true_eq]
  omega
theorem lfR_row {k : Nat} {x : (Nat × Nat) × Bool} : lfR k 2 0 x = lfR (k + 1) 0 0 x := by
  have h2 : bI x.2 < 2 := by unfold bI; split <;> omega
  unfold lfR
  simp only [h2, decide_true, Bool.and_true, Nat.not_lt_zero, decide_false, Bool.and_false, Bool.or_false]
  congr 1
  rw [Bool.eq_iff_iff]
  simp only [Bool.or_eq_true, decide_eq_true_eq]
  omega
theorem lfR_end {k : Nat} {x : (Nat × Nat) × Bool} (h : x.1.1 < k) : lfR k 0 0 x = false := by
  unfold lfR
  simp [h]
theorem lfR_step {L : List (Nat × Nat)} {nx : Nat × Nat → Bool → Nat × Nat} (k places : Nat) (b : Bool) (q : Nat × Nat) :
    doneN L nx (lfR k (bI b) (places + 1)) q = doneN L nx (lfR k (bI b) places) q + (if nx (k, places) b = q then ctR L (k, places) else 0) := by
  refine doneN_strike L nx _ _ q (k, places) b ?_ ?_ ?_
  · unfold lfR; simp
  · unfold lfR; simp
  · rintro ⟨⟨y, z⟩, c⟩ hne
    unfold lfR
    by_cases hy : y = k
    · subst hy
      by_cases hc : bI c = bI b
      · have hcb : c = b := by
          cases b <;> cases c <;> simp [bI] at hc ⊢
        subst hcb
        have hz : z ≠ places := fun e => hne (by rw [e])
        simp only [Nat.lt_irrefl, decide_false, Bool.false_or, decide_true, Bool.true_and]
        congr 1
        rw [Bool.eq_iff_iff]
        simp only [decide_eq_true_eq]
        omega
      · simp [hc]
    · simp [hy]
theorem ctR_end (nx : Nat → Nat × Nat → Bool → Nat × Nat) (i k : Nat) (q : Nat × Nat) (h : ∀ p ∈ stL nx (0, 0) i, p.1 < k) : doneN (stL nx (0, 0) i) (nx i) (lfR k 0 0) q = ctR (stL nx (0, 0) (i + 1)) q :=
  doneN_end nx (0, 0) i _ q fun x hx => lfR_end (h _ hx)
/-- The counts: what is left. -/
def lfC (k places : Nat) (p : Nat × Nat) : Bool := !(decide (p.1 < k) || (decide (p.1 = k) && decide (p.2 < places)))
theorem lfC_start (p : Nat × Nat) : lfC 0 0 p = true := by unfold lfC; simp
theorem lfC_row {k places : Nat} {p : Nat × Nat} (h : p.2 < places) : lfC k places p = lfC (k + 1) 0 p := by
  unfold lfC
  simp only [h, decide_true, Bool.and_true, Nat.not_lt_zero, decide_false, Bool.and_false, Bool.or_false]
  congr 1
  rw [Bool.eq_iff_iff]
  simp only [Bool.or_eq_true, decide_eq_true_eq]
  omega
theorem lfC_end {k : Nat} {p : Nat × Nat} (h : p.1 < k) : lfC k 0 p = false := by unfold lfC; simp [h]
theorem lfC_step {L : List (Nat × Nat)} (k places v : Nat) : markN L (lfC k (places + 1)) (fun s => s.2 == v) = markN L (lfC k places) (fun s => s.2 == v) + (if places == v then ctR L (k, places) else 0) := by
  refine @markN_strike _ instBEqOfDecidableEq _ L (lfC k places) (lfC k (places + 1)) (fun s => s.2 == v) (k, places) ?_ ?_ ?_
  · unfold lfC; simp
  · unfold lfC; simp
  · rintro ⟨y, z⟩ hne
    unfold lfC
    by_cases hy : y = k
    · subst hy
      have hz : z ≠ places := fun e => hne (by rw [e])
      simp only [Nat.lt_irrefl, decide_false, Bool.false_or, decide_true, Bool.true_and]
      congr 1
      rw [Bool.eq_iff_iff]
      simp only [decide_eq_true_eq]
      omega
    · simp [hy]
end Go.Proofs.YtlckamnadddlmaaDoor

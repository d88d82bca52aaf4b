import Derived.Test.YtpineiocjaajnaaWideX
/- The cost of a die, as plain numbers: the remainders of the powers of 2, and both sums. No condition. -/
namespace Go.Proofs.Ytpineiocjaajnaa
set_option linter.unusedVariables false

def dcR (n i : Nat) : Nat := 2 ^ i % n
/-- The first number of steps at which a remainder comes again, and where it was. -/
def dcK (n : Nat) : Nat := ((List.range 40).find? fun k => (List.range k).any fun j => dcR n j == dcR n k).getD 0
def dcB (n : Nat) : Nat := ((List.range (dcK n)).find? fun j => dcR n j == dcR n (dcK n)).getD 0
theorem dcR_succ (n i : Nat) : 2 * dcR n i % n = dcR n (i + 1) := by
  unfold dcR
  rw [Nat.pow_succ, Nat.mul_comm (2 ^ i) 2, Nat.mul_mod, Nat.mod_mod, ← Nat.mul_mod]
theorem dcR_lt {n : Nat} (h : 0 < n) (i : Nat) : dcR n i < n := Nat.mod_lt _ h
/-- Step j if the remainder v has come at step j of the first k steps, plus 1; else 0. -/
def dcSeen (n k v : Nat) : Nat := match (List.range k).find? (fun j => dcR n j == v) with | some j => j + 1 | none => 0
theorem dcSeen_zero (n v : Nat) : dcSeen n 0 v = 0 := rfl
theorem dcSeen_succ (n k v : Nat) : dcSeen n (k + 1) v = if dcSeen n k v = 0 then (if dcR n k = v then k + 1 else 0) else dcSeen n k v := by
  unfold dcSeen
  rw [List.range_succ, List.find?_append]
  cases h : (List.range k).find? (fun j => dcR n j == v) with
  | some j => simp
  | none => by_cases h2 : dcR n k = v <;> simp [h2]
def dcRow (n k : Nat) : List Int := (List.range n).map fun v => ((dcSeen n k v : Nat) : Int)
theorem dcRow_len (n k : Nat) : (dcRow n k).length = n := by simp [dcRow]
theorem dcRow_at {n k v : Nat} (h : v < n) : (dcRow n k).getD v 0 = ((dcSeen n k v : Nat) : Int) := by simp [dcRow, List.getD, h]
theorem dcRow_zero (n : Nat) : dcRow n 0 = List.replicate n 0 := by
  apply List.ext_getElem (by simp [dcRow])
  intro i h1 h2
  simp [dcRow, dcSeen_zero]
theorem dcRow_set {n k : Nat} (h0 : dcSeen n k (dcR n k) = 0) : (dcRow n k).set (dcR n k) (((k + 1 : Nat) : Nat) : Int) = dcRow n (k + 1) := by
  apply List.ext_getElem (by simp [dcRow])
  intro i h1 h2
  rw [List.getElem_set]
  simp only [dcRow, List.getElem_map, List.getElem_range]
  rw [dcSeen_succ]
  by_cases hi : dcR n k = i
  · subst hi; simp [h0]
  · rw [if_neg hi]
    by_cases h3 : dcSeen n k i = 0
    · simp [h3, hi]
    · simp [h3]
/-- What is known of the first steps, by trying all. -/
def dcGood (n : Nat) : Bool := decide (dcB n < dcK n) && decide (dcK n ≤ 32) && (dcR n (dcB n) == dcR n (dcK n)) && decide (dcSeen n (dcK n) (dcR n (dcK n)) = dcB n + 1) && (List.range (dcK n)).all (fun k => decide (dcSeen n k (dcR n k) = 0) && (List.range k).all (fun j => !(dcR n j == dcR n k))) && (List.range (dcB n)).all (fun j => !(dcR n j == dcR n (dcK n)))
theorem dc_good : ∀ n, n < 33 → 0 < n → dcGood n = true := by decide +kernel
structure DcN (n B K : Nat) : Prop where
  bk : B < K
  k32 : K ≤ 32
  same : dcR n B = dcR n K
  seen : dcSeen n K (dcR n K) = B + 1
  fresh : ∀ k, k < K → dcSeen n k (dcR n k) = 0
  new : ∀ k, k < K → ∀ j, j < k → (dcR n j == dcR n k) = false
  first : ∀ j, j < B → (dcR n j == dcR n K) = false
theorem dcN {n : Nat} (h0 : 0 < n) (h1 : n ≤ 32) : DcN n (dcB n) (dcK n) := by
  have h := dc_good n (by omega) h0
  unfold dcGood at h
  simp only [Bool.and_eq_true, decide_eq_true_eq, List.all_eq_true, List.mem_range, beq_iff_eq, Bool.not_eq_true'] at h
  obtain ⟨⟨⟨⟨⟨a, b⟩, c⟩, d⟩, e⟩, f⟩ := h
  exact ⟨a, b, c, d, fun k hk => (e k hk).1, fun k hk j hj => (e k hk).2 j hj, f⟩
/-- The program's two sums behind m steps. -/
def dcS (n B : Nat) : Nat → Rat
  | 0 => 0
  | m + 1 => if m < B then dcS n B m + mkRat ((dcR n m : Nat) : Int) (2 ^ m) else dcS n B m
def dcA (n B : Nat) : Nat → Rat
  | 0 => 0
  | m + 1 => if m < B then dcA n B m else dcA n B m + mkRat ((dcR n m : Nat) : Int) (2 ^ m)
/-- The reference's two numerators. -/
def dcT (n B : Nat) : Nat → Nat
  | 0 => 0
  | m + 1 => dcT n B m + dcR n m * 2 ^ (B - m)
def dcP (n B L : Nat) : Nat → Nat
  | 0 => 0
  | m + 1 => dcP n B L m + dcR n (B + m) * 2 ^ (L - m)
def small60 (r : Rat) : Bool := decide (r.num.natAbs ≤ 1000000000000000000) && decide (r.den ≤ 1000000000000000000)
def small90 (r : Rat) : Bool := decide (r.num.natAbs < 2 ^ 120) && decide (r.den < 2 ^ 120)
def nn (r : Rat) : Bool := decide (0 ≤ r.num)
def dcAgree (n : Nat) : Bool :=
  let B := dcB n; let K := dcK n; let L := K - B
  (List.range (K + 1)).all (fun m => small90 (dcS n B m) && (small90 (dcA n B m) && (nn (dcS n B m) && nn (dcA n B m)))) && ((List.range (B + 1)).all (fun m => decide (dcT n B m < 2 ^ 60)) && ((List.range (L + 1)).all (fun m => decide (dcP n B L m < 2 ^ 60)) &&
  (small90 (mkRat ((2 ^ L : Nat) : Int) (2 ^ L - 1)) && (small90 (dcA n B K * mkRat ((2 ^ L : Nat) : Int) (2 ^ L - 1)) && (small90 (dcS n B K + dcA n B K * mkRat ((2 ^ L : Nat) : Int) (2 ^ L - 1)) &&
  (small60 (mkRat ((dcT n B B : Nat) : Int) (2 ^ B)) && (small60 (mkRat ((dcP n B L L : Nat) : Int) ((2 ^ L - 1) * 2 ^ B)) &&
  (decide ((2 ^ L - 1) * 2 ^ B < 2 ^ 60) && decide (mkRat ((dcT n B B : Nat) : Int) (2 ^ B) + mkRat ((dcP n B L L : Nat) : Int) ((2 ^ L - 1) * 2 ^ B) = dcS n B K + dcA n B K * mkRat ((2 ^ L : Nat) : Int) (2 ^ L - 1))))))))))
theorem dc_agree : ∀ n, n < 33 → 0 < n → dcAgree n = true := by decide +kernel
end Go.Proofs.Ytpineiocjaajnaa

import Derived.Test.YtaneocedklnajaaGreatComb3
import Derived.Test.YtaneocedklnajaaGreatWts
/- Laws as plain lists: sums of fractions, and when a law is valid. No condition. -/
namespace Go.Proofs.YtaneocedklnajaaGreat
open Go.RowKit
set_option linter.unusedVariables false

def frN (fs : List Int) (i : Nat) : Int := fs.getD (i * 2) 0
def frD (fs : List Int) (i : Nat) : Int := fs.getD (i * 2 + 1) 0
/-- The fraction number i of a list, two numbers a fraction. -/
def frR (fs : List Int) (i : Nat) : Rat := mkRat (frN fs i) (frD fs i).toNat
def sumR (fs : List Int) : Nat → Rat
  | 0 => 0
  | m + 1 => sumR fs m + frR fs m
def allVF (fs : List Int) (n : Nat) : Bool := (List.range n).all fun k => vF (frN fs k) (frD fs k)
def allPos (fs : List Int) (n : Nat) : Bool := (List.range n).all fun k => decide (0 < frN fs k)
def sumOk (fs : List Int) (n : Nat) : Bool := (List.range n).all fun k => fitR (sumR fs (k + 1))
def incr (vs : List Int) : Bool := (List.range (vs.length - 1)).all fun k => decide (vs.getD k 0 < vs.getD (k + 1) 0)
def zeroF : Value := .tuple #[.agg #[.int .i64 0, .int .i64 0], .bool false]
/-- The sum of fractions, if all sums on the way are valid. -/
def sumFV (fs : List Int) (n : Nat) : Value := if sumOk fs n then fracV (sumR fs n) else zeroF
def sumV (fs : List Int) (n : Nat) : Value := if decide (n ≤ 64) && allVF fs n then sumFV fs n else zeroF
/-- A valid law. -/
def lawOk (vs fs : List Int) (n m : Nat) : Bool := inR n 1 64 && (decide (m = n) && (allR vs (-1000000000000000) 1000000000000000 && (incr vs && (allVF fs n && (allPos fs n && (sumOk fs n && decide (sumR fs n = 1)))))))

theorem allB_at {p : Nat → Bool} {n k : Nat} (h : (List.range n).all p = true) (hk : k < n) : p k = true := by
  rw [List.all_eq_true] at h; exact h k (List.mem_range.2 hk)
theorem allB_of {p : Nat → Bool} {n : Nat} (h : ∀ k, k < n → p k = true) : (List.range n).all p = true := by
  rw [List.all_eq_true]; intro k hk; exact h k (List.mem_range.1 hk)
theorem allB_no {p : Nat → Bool} {n k : Nat} (hk : k < n) (h : p k = false) : (List.range n).all p = false := by
  rw [List.all_eq_false]; exact ⟨k, List.mem_range.2 hk, by rw [h]; simp⟩
theorem fitR_zero : fitR 0 = true := by decide
/-- A valid fraction's parts are the rational number's own. -/
theorem vF_parts {n d : Int} (h : vF n d = true) : (mkRat n d.toNat).num = n ∧ (((mkRat n d.toNat).den : Nat) : Int) = d ∧ fitR (mkRat n d.toNat) = true := by
  obtain ⟨⟨h1, h2⟩, ⟨h3, h4⟩, h5⟩ := vF_iff.1 h
  obtain ⟨e1, e2⟩ := rat_of (p := n) (q := d.toNat) (by omega) h5
  refine ⟨e1, by rw [e2]; omega, ?_⟩
  unfold fitR
  rw [e1, e2, decide_eq_true (by omega), decide_eq_true (by omega)]; rfl
theorem fit_parts {r : Rat} (h : fitR r = true) : r.num.natAbs ≤ 1000000000000000000 ∧ r.den ≤ 1000000000000000000 ∧ 0 < r.den ∧ r.num.natAbs.gcd r.den = 1 := by
  unfold fitR at h
  simp only [Bool.and_eq_true, decide_eq_true_eq] at h
  exact ⟨h.1, h.2, Rat.den_pos _, r.reduced⟩
theorem mk_self (r : Rat) : mkRat r.num r.den = r := Rat.mkRat_self r
theorem sumOk_le {fs : List Int} {n m : Nat} (h : sumOk fs n = true) (hm : m ≤ n) : fitR (sumR fs m) = true := by
  cases m with
  | zero => exact fitR_zero
  | succ m => exact allB_at h (by omega)
theorem fracV_fit {r : Rat} (h : fitR r = true) : fracV r = .tuple #[.agg #[.int .i64 r.num, .int .i64 (r.den : Nat)], .bool true] := fracV_yes h
theorem sumFV_no {fs : List Int} {n k : Nat} (hk : k < n) (h : fitR (sumR fs (k + 1)) = false) : sumFV fs n = zeroF := by
  unfold sumFV
  rw [show sumOk fs n = false from allB_no hk h]
  rfl
theorem sumFV_yes {fs : List Int} {n : Nat} (h : ∀ k, k < n → fitR (sumR fs (k + 1)) = true) : sumFV fs n = fracV (sumR fs n) := by
  unfold sumFV
  rw [show sumOk fs n = true from allB_of h]
  rfl
theorem rat_one_iff (r : Rat) : (r = 1) ↔ (r.num = 1 ∧ r.den = 1) := by
  constructor
  · rintro rfl; exact ⟨rfl, rfl⟩
  · rintro ⟨h1, h2⟩
    apply Rat.ext h1 h2
/-- What a valid law is. -/
structure LawQ (vs fs : List Int) (n : Nat) : Prop where
  n1 : 1 ≤ n
  n64 : n ≤ 64
  rng : ∀ k, k < n → -1000000000000000 ≤ vs.getD k 0 ∧ vs.getD k 0 ≤ 1000000000000000
  inc : ∀ k, k + 1 < n → vs.getD k 0 < vs.getD (k + 1) 0
  ok : ∀ k, k < n → vF (frN fs k) (frD fs k) = true
  pos : ∀ k, k < n → 0 < frN fs k
  fit : ∀ m, m ≤ n → fitR (sumR fs m) = true
  one : sumR fs n = 1
theorem lawQ_of {vs fs : List Int} {n m : Nat} (hl : vs.length = n) (h : lawOk vs fs n m = true) : m = n ∧ LawQ vs fs n := by
  unfold lawOk at h
  simp only [Bool.and_eq_true, decide_eq_true_eq] at h
  obtain ⟨h1, h2, h3, h4, h5, h6, h7, h8⟩ := h
  simp only [inR, Bool.and_eq_true, decide_eq_true_eq] at h1
  refine ⟨h2, by omega, by omega, fun k hk => ?_, fun k hk => ?_, fun k hk => allB_at h5 hk, fun k hk => by simpa using allB_at h6 hk, fun m hm => sumOk_le h7 hm, h8⟩
  · unfold allR at h3
    rw [List.all_eq_true] at h3
    have := h3 (vs.getD k 0) (by rw [getD_eq _ _ (by omega)]; exact List.getElem_mem _)
    simpa [inR] using this
  · have := allB_at h4 (show k < vs.length - 1 by omega)
    simpa using this
theorem LawQ.mono {vs fs : List Int} {n : Nat} (h : LawQ vs fs n) : ∀ j k, j < k → k < n → vs.getD j 0 < vs.getD k 0 := by
  intro j k hj hk
  induction k with
  | zero => omega
  | succ k ih =>
    have := h.inc k hk
    rcases Nat.lt_or_ge j k with h1 | h1
    · have := ih h1 (by omega); omega
    · obtain rfl : j = k := by omega
      exact this
end Go.Proofs.YtaneocedklnajaaGreat

import Derived.Test.YtjkbldkcjjaonaaDoorFairB
/- Fair bits out of a block of bits: plain part, program, reference, law. Condition: the text is shorter than the model's greatest length. -/
namespace Go.Proofs.YtjkbldkcjjaonaaDoor
open Go.RowKit
set_option linter.unusedVariables false

def oneB (s : ByteArray) (i : Nat) : Bool := by8 s i == 49
/-- The ones among the first i. -/
def cN (s : ByteArray) : Nat → Nat
  | 0 => 0
  | i + 1 => cN s i + (if oneB s i then 1 else 0)
/-- The number of the block among those with as many ones. -/
def rk (s : ByteArray) (n K : Nat) : Nat → Nat
  | 0 => 0
  | i + 1 => rk s n K i + (if oneB s i then bin (n - i - 1) (K - cN s i) else 0)
theorem cN_add (s : ByteArray) (i : Nat) : ∀ m, cN s i ≤ cN s (i + m)
  | 0 => Nat.le_refl _
  | m + 1 => by
    have := cN_add s i m
    rw [← Nat.add_assoc, cN]; omega
theorem cN_mono (s : ByteArray) {i n : Nat} (h : i ≤ n) : cN s i ≤ cN s n := by
  obtain ⟨m, rfl⟩ := Nat.exists_eq_add_of_le h
  exact cN_add s i m
theorem cN_le (s : ByteArray) : ∀ i, cN s i ≤ i
  | 0 => Nat.le_refl _
  | i + 1 => by have := cN_le s i; rw [cN]; split <;> omega
theorem cN_count (s : ByteArray) : ∀ i, i ≤ s.data.toList.length → (s.data.toList.take i).count 49 = cN s i
  | 0, _ => rfl
  | i + 1, h => by
    have e : s.data.toList.take (i + 1) = s.data.toList.take i ++ [by8 s i] := by
      rw [List.take_succ_eq_append_getElem (by omega)]
      simp only [by8, List.getD, List.getElem?_eq_getElem (show i < s.data.toList.length by omega), Option.getD_some]
    rw [e, List.count_append, cN_count s i (by omega), cN]
    congr 1
    unfold oneB
    cases hb : (by8 s i == 49) with
    | true => rw [show by8 s i = 49 from by simpa using hb]; rfl
    | false => simp [List.count_cons, hb]
theorem cN_all (s : ByteArray) : Lib.countByte s.data.toList 49 = cN s s.size := by
  have e : s.data.toList.length = s.size := Array.length_toList
  have h := cN_count s s.size (by omega)
  rw [List.take_of_length_le (by omega)] at h
  exact h
theorem bin_mono1 (m : Nat) : ∀ k, bin m k ≤ bin (m + 1) k
  | 0 => by rw [bin_zero, bin_zero]; exact Nat.le_refl _
  | k + 1 => by simp only [bin]; omega
theorem rk_bound (s : ByteArray) (n : Nat) : ∀ i, i ≤ n → rk s n (cN s n) i + bin (n - i) (cN s n - cN s i) ≤ bin n (cN s n)
  | 0, _ => by simp [rk, cN]
  | i + 1, h => by
    have ih := rk_bound s n i (by omega)
    have hm := cN_mono s h
    obtain ⟨m, hm'⟩ : ∃ m, n - i = m + 1 := ⟨n - i - 1, by omega⟩
    rw [rk, show n - (i + 1) = m by omega]
    rw [hm'] at ih
    rw [show n - i - 1 = m by omega]
    cases ho : oneB s i with
    | true =>
      have hc : cN s (i + 1) = cN s i + 1 := by rw [cN, ho]; rfl
      rw [hc] at hm ⊢
      obtain ⟨q, hq⟩ : ∃ q, cN s n - cN s i = q + 1 := ⟨cN s n - cN s i - 1, by omega⟩
      rw [hq] at ih ⊢
      rw [show cN s n - (cN s i + 1) = q by omega]
      simp only [bin] at ih
      simp only [if_true]
      omega
    | false =>
      have hc : cN s (i + 1) = cN s i := by rw [cN, ho]; rfl
      rw [hc]
      have := bin_mono1 m (cN s n - cN s i)
      simp only [Bool.false_eq_true, if_false]
      omega
theorem rk_lt (s : ByteArray) (n : Nat) : rk s n (cN s n) n < bin n (cN s n) := by
  have := rk_bound s n n (Nat.le_refl _)
  rw [Nat.sub_self, Nat.sub_self, bin_zero] at this
  omega
/-- The greatest power in A that x lies below, and what is left of x there. -/
def fbGo (A : Nat) : Nat → Nat → Nat × Nat
  | 0, x => (x, 0)
  | e + 1, x => if A.testBit e then (if x < 2 ^ e then (x, e) else fbGo A e (x - 2 ^ e)) else fbGo A e x
theorem mod_bit (A e : Nat) : A % 2 ^ (e + 1) = A % 2 ^ e + 2 ^ e * (A.testBit e).toNat := by
  rw [Nat.pow_succ, Nat.mod_mul, Nat.testBit_eq_decide_div_mod_eq]
  congr 2
  have := Nat.mod_two_eq_zero_or_one (A / 2 ^ e)
  rcases this with h | h <;> rw [h] <;> rfl
theorem fb_no {A e x : Nat} {R : Nat × Nat} (hb : A.testBit e = false) (hx : x < A % 2 ^ (e + 1)) (h : fbGo A (e + 1) x = R) : x < A % 2 ^ e ∧ fbGo A e x = R := by
  rw [fbGo, hb] at h
  rw [mod_bit, hb] at hx
  exact ⟨by simpa using hx, by simpa using h⟩
theorem fb_hit {A e x : Nat} {R : Nat × Nat} (hb : A.testBit e = true) (hl : x < 2 ^ e) (h : fbGo A (e + 1) x = R) : R = (x, e) := by
  rw [fbGo, hb, if_pos rfl, if_pos hl] at h
  exact h.symm
theorem fb_go {A e x : Nat} {R : Nat × Nat} (hb : A.testBit e = true) (hl : ¬ x < 2 ^ e) (hx : x < A % 2 ^ (e + 1)) (h : fbGo A (e + 1) x = R) : x - 2 ^ e < A % 2 ^ e ∧ fbGo A e (x - 2 ^ e) = R := by
  rw [fbGo, hb, if_pos rfl, if_neg hl] at h
  rw [mod_bit, hb] at hx
  refine ⟨?_, h⟩
  simp at hx
  omega
theorem fb_up {A m x : Nat} (h : A < 2 ^ m) : ∀ q, fbGo A (m + q) x = fbGo A m x
  | 0 => rfl
  | q + 1 => by
    have hb : A.testBit (m + q) = false := Nat.testBit_lt_two_pow (Nat.lt_of_lt_of_le h (Nat.pow_le_pow_right (by omega) (by omega)))
    rw [← Nat.add_assoc, fbGo, hb]
    simpa using fb_up h q
theorem and_pow (A e : Nat) : A &&& 2 ^ e = if A.testBit e then 2 ^ e else 0 := by
  apply Nat.eq_of_testBit_eq
  intro i
  rw [Nat.testBit_and, Nat.testBit_two_pow]
  by_cases h : e = i
  · subst h; cases hb : A.testBit e <;> simp
  · cases hb : A.testBit e <;> simp [h]
def fbOk (s : ByteArray) : Bool := isB s && decide (s.size ≤ 16)
def fbR (s : ByteArray) : Nat × Nat := fbGo (bin s.size (cN s s.size)) 17 (rk s s.size (cN s s.size) s.size)
def fbT (s : ByteArray) : List Int := if fbOk s then bitsP (fbR s).1 (fbR s).2 (fbR s).2 else []
def RetTy (w : World) (ok : Bool) (xs : List Int) (e : Ending) (w' : World) : Prop := e = .returned (.tuple #[.string (strOfNums xs), .bool ok]) ∧ Below w.heap.size w w'
theorem retTy_no {w w' : World} (hb : Below w.heap.size w w') : RetTy w false [] (.returned (.tuple #[.string ⟨#[]⟩, .bool false])) w' := ⟨rfl, hb⟩
/-- A step of the loops over the powers, in numbers. -/
theorem fb_step {A x e : Nat} (hA : A ≤ 65536) (he : e ≤ 16) : ∃ P : Nat, 2 ^ e = P ∧ P ≤ 65536 ∧ 1 ≤ P ∧ wrap64 ((2 : Int) ^ e) = (P : Int) ∧ bits .and .i64 (A : Int) (P : Int) = (if A.testBit e then (P : Int) else 0) := by
  have h64 : ∀ e, e < 17 → 2 ^ e ≤ 65536 := by decide
  have h1 := h64 e (by omega)
  have h2 : 1 ≤ 2 ^ e := Nat.one_le_two_pow
  have hcast : ((2 ^ e : Nat) : Int) = (2 : Int) ^ e := by simp
  refine ⟨2 ^ e, rfl, h1, h2, by rw [pow_wrap e (by omega)]; exact hcast.symm, ?_⟩
  rw [and_i64 A (2 ^ e) (by omega) (by omega), and_pow]
  cases A.testBit e <;> simp
end Go.Proofs.YtjkbldkcjjaonaaDoor

import Derived.Test.YthjndfbjalkckaaDoorBase
import Derived.Lib.ItoaNum
/- The decimal text of a number: plain facts. No condition. -/
namespace Go.Proofs.YthjndfbjalkckaaDoor
set_option linter.unusedVariables false

/-- The decimal digits of a number above 0, the last one first, as bytes. -/
def dgs (u : Nat) : List Int := if h : u = 0 then [] else (48 + ((u % 10 : Nat) : Int)) :: dgs (u / 10)
termination_by u
decreasing_by omega
theorem dgs_zero : dgs 0 = [] := by rw [dgs]; rfl
theorem dgs_pos {u : Nat} (h : u ≠ 0) : dgs u = (48 + ((u % 10 : Nat) : Int)) :: dgs (u / 10) := by rw [dgs, dif_neg h]
def toB (xs : List Int) : List UInt8 := xs.map (fun z => UInt8.ofNat z.toNat)
theorem dec_dgs (u : Nat) (h : u ≠ 0) : Lib.decDigits u = toB (dgs u).reverse := by
  induction u using Nat.strongRecOn with
  | _ u ih =>
    rw [Lib.decDigits, dgs_pos h]
    by_cases h1 : u < 10
    · rw [dif_pos h1]
      have e : u / 10 = 0 := by omega
      have e2 : u % 10 = u := by omega
      rw [e, e2, dgs_zero]
      simp only [toB, List.reverse_cons, List.reverse_nil, List.nil_append, List.map_cons, List.map_nil]
      have : (48 + (u : Int)).toNat = 48 + u := by omega
      rw [this]
    · rw [dif_neg h1, ih (u / 10) (by omega) (by omega)]
      simp only [toB, List.reverse_cons, List.map_append, List.map_cons, List.map_nil]
      have : (48 + ((u % 10 : Nat) : Int)).toNat = 48 + u % 10 := by omega
      rw [this]
theorem dgs_len : ∀ (k u : Nat), u < 10 ^ k → (dgs u).length ≤ k
  | 0, u, h => by
    have : u = 0 := by simp at h; exact h
    subst this; rw [dgs_zero]; simp
  | k + 1, u, h => by
    by_cases h0 : u = 0
    · subst h0; rw [dgs_zero]; simp
    · rw [dgs_pos h0, List.length_cons]
      have := dgs_len k (u / 10) (by rw [Nat.pow_succ] at h; omega)
      omega
/-- The text of a number, as bytes. -/
def decN (n : Int) : List Int := if n = 0 then [48] else (dgs n.natAbs ++ (if n < 0 then [45] else [])).reverse
theorem decN_itoa (n : Int) : toB (decN n) = Lib.itoa n := by
  unfold decN Lib.itoa
  by_cases h0 : n = 0
  · subst h0
    rw [if_pos rfl, if_neg (by omega), Lib.decDigits, dif_pos (by decide)]
    rfl
  · rw [if_neg h0]
    by_cases hn : n < 0
    · rw [if_pos hn, if_pos hn, dec_dgs _ (by omega)]
      simp [toB]
    · rw [if_neg hn, if_neg hn]
      have e : n.toNat = n.natAbs := by omega
      rw [e, dec_dgs _ (by omega)]
      simp
theorem dgs_bd (u : Nat) : ∀ z ∈ dgs u, 48 ≤ z ∧ z ≤ 57 := by
  induction u using Nat.strongRecOn with
  | _ u ih =>
    by_cases h0 : u = 0
    · subst h0; rw [dgs_zero]; simp
    · rw [dgs_pos h0]
      intro z hz
      rcases List.mem_cons.1 hz with rfl | hz
      · omega
      · exact ih _ (by omega) z hz
theorem decN_str (n : Int) : strOfNums (decN n) = ⟨(Lib.itoa n).toArray⟩ := by rw [← decN_itoa]; rfl
end Go.Proofs.YthjndfbjalkckaaDoor

import Derived.Test.YtpineiocjaajnaaLawG
import Derived.Test.YtpineiocjaajnaaDiff2
import Derived.Test.YtpineiocjaajnaaB10
/- The law FnDifferent: the law of different kinds against counting all draws. Condition: none (few kinds and draws are chosen). -/
namespace Go.Proofs.Ytpineiocjaajnaa
open Go.RowKit
set_option linter.unusedVariables false

/-- The different ones of the first i draws of number X. -/
def snL (K X : Nat) : Nat → List Nat
  | 0 => []
  | i + 1 => if X / K ^ i % K ∈ snL K X i then snL K X i else snL K X i ++ [X / K ^ i % K]
theorem snL_len (K X : Nat) : ∀ i, (snL K X i).length ≤ i
  | 0 => Nat.le_refl _
  | i + 1 => by
    have := snL_len K X i
    rw [snL]; split
    · omega
    · simp; omega
def snI (K X i : Nat) : List Int := (snL K X i).map fun (x : Nat) => (x : Int)
theorem snI_mem {K X i z : Nat} : ((z : Nat) : Int) ∈ snI K X i ↔ z ∈ snL K X i := by
  unfold snI
  rw [List.mem_map]
  constructor
  · rintro ⟨a, h, e⟩
    obtain rfl : a = z := by omega
    exact h
  · intro h; exact ⟨z, h, rfl⟩
theorem snI_yes {K X i : Nat} (h : ((X / K ^ i % K : Nat) : Int) ∈ snI K X i) : snI K X (i + 1) = snI K X i := by
  rw [snI_mem] at h
  unfold snI
  rw [snL, if_pos h]
theorem snI_no {K X i : Nat} (h : ¬ ((X / K ^ i % K : Nat) : Int) ∈ snI K X i) : snI K X (i + 1) = snI K X i ++ [((X / K ^ i % K : Nat) : Int)] := by
  rw [snI_mem] at h
  unfold snI
  rw [snL, if_neg h, List.map_append]
  rfl
/-- How many of the numbers below X have v different draws. -/
def cnD (K d : Nat) : Nat → Nat → Nat
  | 0, _ => 0
  | X + 1, v => cnD K d X v + if (snL K X d).length = v then 1 else 0
theorem cnD_le (K d : Nat) : ∀ X v, cnD K d X v ≤ X
  | 0, _ => Nat.le_refl _
  | X + 1, v => by
    have := cnD_le K d X v
    rw [cnD]; split <;> omega
def cnI (K d X : Nat) : List Int := (List.range (d + 1)).map fun v => ((cnD K d X v : Nat) : Int)
theorem cnI_at {K d X v : Nat} (h : v < d + 1) : (cnI K d X).getD v 0 = ((cnD K d X v : Nat) : Int) := by simp [cnI, List.getD, h]
theorem cnI_len (K d X : Nat) : (cnI K d X).length = d + 1 := by simp [cnI]
theorem cnI_zero (K d : Nat) : List.replicate (d + 1) (0 : Int) = cnI K d 0 := by
  apply List.ext_getElem (by simp [cnI])
  intro i h1 h2
  simp [cnI, cnD]
theorem cnI_set (K d X : Nat) : (cnI K d X).set (snL K X d).length (((cnD K d X (snL K X d).length : Nat) : Int) + 1) = cnI K d (X + 1) := by
  apply List.ext_getElem (by simp [cnI])
  intro i h1 h2
  rw [List.getElem_set]
  simp only [cnI, List.getElem_map, List.getElem_range, cnD]
  by_cases h : (snL K X d).length = i
  · rw [if_pos h, if_pos h, h]; omega
  · rw [if_neg h, if_neg h]; omega
theorem cnD_all : ∀ K, K < 5 → 0 < K → ∀ d, d < 5 → 0 < d → ∀ v, v < d + 1 → cnD K d (K ^ d) v = dcF K d v := by decide +kernel
theorem pow_all : ∀ K, K < 5 → ∀ j, j < 5 → K ^ j < 300 := by decide +kernel
/-- All that the walk needs of the law. -/
structure FdC (K d N : Nat) (V F : List Int) (P Q : Nat → Int) : Prop where
  law : ∀ w, Calls Try.prog 20 #[.int .i64 (K : Nat), .int .i64 (d : Nat)] w fun e w' => ∃ a1 c1 a2 c2, e = .returned (.tuple #[.agg #[.slice a1 N c1, .slice a2 N c2], .bool true]) ∧ (IsInts w' a1 N V ∧ IsInts w' a2 (N * 2) F) ∧ Below w.heap.size w w'
  valid : ∀ w a1 a2 c1 c2, IsInts w a1 N V → IsInts w a2 (N * 2) F → Calls Try.prog 21 #[.agg #[.slice a1 N c1, .slice a2 N c2]] w fun e w' => e = .returned (.bool true) ∧ Below w.heap.size w w'
  chance : ∀ v w a1 a2 c1 c2, v ≤ d → IsInts w a1 N V → IsInts w a2 (N * 2) F → Calls Try.prog 23 #[.agg #[.slice a1 N c1, .slice a2 N c2], .int .i64 (v : Nat)] w fun e w' => e = .returned (.tuple #[.agg #[.int .i64 (P v), .int .i64 (Q v)], .bool true]) ∧ Below w.heap.size w w'
  make : ∀ v w, v ≤ d → Calls Try.prog 24 #[.int .i64 (cnD K d (K ^ d) v : Nat), .int .i64 (K ^ d : Nat)] w fun e w' => e = .returned (.tuple #[.agg #[.int .i64 (P v), .int .i64 (Q v)], .bool true]) ∧ Below w.heap.size w w'
theorem fdC {K d : Nat} (hK : 1 ≤ K) (hK4 : K ≤ 4) (hd : 1 ≤ d) (hd4 : d ≤ 4) : ∃ N V F P Q, FdC K d N V F P Q := by
  have hp := pow_all K (by omega) d (by omega)
  have hp0 : 0 < K ^ d := Nat.pow_pos (by omega)
  have hps : psum (dcI K d (K + 1)) (K + 1) = ((K ^ d : Nat) : Int) := by
    rw [psum_map0 (dcF K d) _ _ (fun i hi => dcI_at hi), dcF_total]
  have hq := lawQ_counts (first := 0) (cs := dcI K d (K + 1)) (all := K ^ d) (m := K + 1) hp0 (by omega) (fun i hi => by rw [dcI_at hi]; omega) hps (by omega) (by omega)
  rw [(df_one K d).1, (df_one K d).2] at hq
  refine ⟨(dfV K d).length, dfV K d, dfL K d, fun v => (mkRat ((dcF K d v : Nat) : Int) (K ^ d)).num, fun v => (((mkRat ((dcF K d v : Nat) : Int) (K ^ d)).den : Nat) : Int), fun w => ?_, fun w a1 a2 c1 c2 h1 h2 => ?_, fun v w a1 a2 c1 c2 hv h1 h2 => ?_, fun v w hv => ?_⟩
  · refine (different_yes K d w hK (by omega) hd (by omega)).mono ?_
    rintro e w' ⟨V', C', rfl, hl, hb⟩
    obtain ⟨a1, c1, rfl⟩ := own_shape hl.val
    obtain ⟨a2, c2, rfl⟩ := own_shape hl.cha
    exact ⟨a1, c1, a2, c2, rfl, ⟨IsInts.of_own hl.val, IsInts.of_own2 hl.cha⟩, hb⟩
  · have := validLaw_any a1 a2 _ _ c1 c2 _ _ w (by have := hq.n64; omega) (by have := hq.n64; omega) h1 h2
    rw [lawOk_of rfl hq] at this
    exact this
  · have hc := chP_counts (first := 0) (cs := dcI K d (d + 1)) (all := K ^ d) (m := d + 1) hp0 (fun i hi => by rw [dcI_at hi]; omega) (i := v) (by omega)
    rw [(df_two K d).1, (df_two K d).2, dcI_at (by omega), Int.zero_add] at hc
    have := chanceOf_any a1 a2 _ _ c1 c2 _ _ (v : Nat) w (by have := hq.n64; omega) (by have := hq.n64; omega) h1 h2
    unfold chV at this
    rw [lawOk_of rfl hq, if_pos rfl, hc] at this
    exact this
  · have hcn := cnD_all K (by omega) (by omega) d (by omega) (by omega) v (by omega)
    have hle := cnD_le K d (K ^ d) v
    have := specMake_any (cnD K d (K ^ d) v) (K ^ d) w (by omega) (by omega) hp0
    rw [hcn] at this
    rw [hcn]
    exact this
/-- What the walk keeps of the law in memory. -/
structure FdM (w wr : World) (b : Nat) (a1 a2 : Option Addr) (N c1 c2 : Nat) (V F : List Int) : Prop where
  bx : C2 wr b (.slice a1 N c1) (.slice a2 N c2)
  val : IsInts wr a1 N V
  cha : IsInts wr a2 (N * 2) F
  bel : Below w.heap.size w wr
theorem FdM.all {w wr wx : World} {b : Nat} {a1 a2 : Option Addr} {N c1 c2 : Nat} {V F : List Int} (h : FdM w wr b a1 a2 N c1 c2 V F) (hb : Below wr.heap.size wr wx) : FdM w wx b a1 a2 N c1 c2 V F := ⟨h.bx.all hb, h.val.below hb, h.cha.below hb, bthen h.bel hb⟩
end Go.Proofs.Ytpineiocjaajnaa

import Derived.Test.YtlckamnadddlmaaDoorOnesX
import Derived.Test.YtlckamnadddlmaaDoorBinX
import Derived.BigRegion
/- The law of the longest run: the program, given its lawOf. -/
namespace Go.Proofs.YtlckamnadddlmaaDoor
open Go.RowKit
set_option linter.unusedVariables false

theorem wy_none {n : Nat} (hn : 1 ≤ n) : wy 0 n = 0 := by
  obtain ⟨k, rfl⟩ : ∃ k, n = k + 1 := ⟨n - 1, by omega⟩
  rw [wy_succ]
  simp [sum1]
theorem wy_small (q k : Nat) (hk : k ≤ 50) : wy q k ≤ 1125899906842624 := Nat.le_trans (wy_le q k) (pow_50 hk)
/-- The counts of the longest runs. -/
def loR (n j : Nat) : List Int := (List.range j).map fun i => 2 * ((wy (i + 1) n : Nat) : Int) - 2 * ((wy i n : Nat) : Int)
theorem loR_at {n j i : Nat} (h : i < j) : (loR n j).getD i 0 = 2 * ((wy (i + 1) n : Nat) : Int) - 2 * ((wy i n : Nat) : Int) := by simp [loR, List.getD, h]
theorem loR_succ (n j : Nat) : loR n (j + 1) = loR n j ++ [2 * ((wy (j + 1) n : Nat) : Int) - 2 * ((wy j n : Nat) : Int)] := by simp [loR, List.range_succ]
def wyI (q k : Nat) : List Int := (wyL q k).map fun (x : Nat) => (x : Int)
theorem wyI_at {q k j : Nat} (h : j ≤ k) : (wyI q k).getD j 0 = ((wy q j : Nat) : Int) := by
  have h1 : j < (wyL q k).length := by rw [wyL_len]; omega
  rw [← wyL_at q k j h]
  simp [wyI, List.getD, h1]
theorem wyI_succ (q k : Nat) : wyI q (k + 1) = wyI q k ++ [((wy q (k + 1) : Nat) : Int)] := by
  have h : wy q (k + 1) = sum1 (fun r => (wyL q k).getD (k + 1 - r) 0) (min q (k + 1)) := by
    have hl := wyL_len q k
    unfold wy
    rw [show wyL q (k + 1) = wyL q k ++ [sum1 (fun r => (wyL q k).getD (k + 1 - r) 0) (min q (k + 1))] from rfl]
    simp [List.getD, hl]
  unfold wyI
  rw [show wyL q (k + 1) = wyL q k ++ [sum1 (fun r => (wyL q k).getD (k + 1 - r) 0) (min q (k + 1))] from rfl, ← h]
  simp
theorem wySum_small (q k m : Nat) (hk : k + 1 ≤ 50) (hm : m ≤ k + 1) : sum1 (fun r => wy q (k + 1 - r)) m ≤ 1125899906842624 := Nat.le_trans (wy_part_le q k m hm) (pow_50 hk)
end Go.Proofs.YtlckamnadddlmaaDoor
/- The counts of lists without long runs: the reference's. -/
namespace Go.Proofs.YtlckamnadddlmaaDoor
open Go.RowKit
set_option linter.unusedVariables false

def lrI (q i : Nat) : List Int := (List.range (q + 1)).map fun k => ((lastR q i k : Nat) : Int)
theorem lrI_at {q i k : Nat} (h : k ≤ q) : (lrI q i).getD k 0 = ((lastR q i k : Nat) : Int) := by simp [lrI, List.getD, show k < q + 1 by omega]
theorem lrI_len (q i : Nat) : (lrI q i).length = q + 1 := by simp [lrI]
/-- The next counts after k rounds. -/
def nxF (q i k t : Nat) : Nat := if t = 1 then sum1 (lastR q i) k else if 2 ≤ t ∧ t ≤ k + 1 ∧ t ≤ q then lastR q i (t - 1) else 0
def nxI (q i k : Nat) : List Int := (List.range (q + 1)).map fun t => ((nxF q i k t : Nat) : Int)
theorem nxI_len (q i k : Nat) : (nxI q i k).length = q + 1 := by simp [nxI]
theorem nxI_at {q i k t : Nat} (h : t ≤ q) : (nxI q i k).getD t 0 = ((nxF q i k t : Nat) : Int) := by simp [nxI, List.getD, show t < q + 1 by omega]
theorem list_eq {xs ys : List Int} (hl : xs.length = ys.length) (h : ∀ i, i < xs.length → xs.getD i 0 = ys.getD i 0) : xs = ys := by
  refine List.ext_getElem hl fun i h1 h2 => ?_
  have := h i h1
  simpa [List.getD, h1, h2] using this
theorem getD_setI (xs : List Int) (i : Nat) (v : Int) (j : Nat) (hi : i < xs.length) : (xs.set i v).getD j 0 = if j = i then v else xs.getD j 0 := by
  by_cases e : j = i
  · subst e; simp [List.getD, hi]
  · rw [if_neg e]; simp [List.getD, Ne.symm e]
theorem lr_start (q : Nat) (hq : 1 ≤ q) : ((List.replicate (q + 1) (0 : Int)).set 1 2) = lrI q 0 := by
  refine list_eq (by simp [lrI]) fun t ht => ?_
  rw [List.length_set, List.length_replicate] at ht
  rw [getD_setI _ _ _ _ (by simp; omega), lrI_at (by omega), lastR_start q t hq]
  by_cases e : t = 1
  · rw [if_pos e, if_pos e]; rfl
  · rw [if_neg e, if_neg e]; simp [List.getD, ht]
theorem nx_start (q i : Nat) : List.replicate (q + 1) (0 : Int) = nxI q i 0 := by
  refine list_eq (by simp [nxI]) fun t ht => ?_
  rw [List.length_replicate] at ht
  rw [nxI_at (by omega)]
  unfold nxF
  by_cases e : t = 1
  · rw [if_pos e]; simp [List.getD, ht, sum1]
  · rw [if_neg e, if_neg (by omega)]; simp [List.getD, ht]
theorem nx_one (q i k : Nat) (hk : k < q) (hlast : ¬ k + 1 < q) : (nxI q i k).set 1 (((sum1 (lastR q i) (k + 1) : Nat) : Int)) = nxI q i (k + 1) := by
  refine list_eq (by simp [nxI]) fun t ht => ?_
  rw [List.length_set, nxI_len] at ht
  rw [getD_setI _ _ _ _ (by rw [nxI_len]; omega), nxI_at (by omega), nxI_at (by omega)]
  unfold nxF
  by_cases e : t = 1
  · rw [if_pos e, if_pos e]
  · rw [if_neg e, if_neg e, if_neg e]
    by_cases h : 2 ≤ t ∧ t ≤ k + 1 ∧ t ≤ q
    · rw [if_pos h, if_pos (by omega)]
    · rw [if_neg h, if_neg (by omega)]
theorem nx_two (q i k : Nat) (hk : k + 1 < q) : ((nxI q i k).set 1 (((sum1 (lastR q i) (k + 1) : Nat) : Int))).set (k + 2) ((lastR q i (k + 1) : Nat) : Int) = nxI q i (k + 1) := by
  refine list_eq (by simp [nxI]) fun t ht => ?_
  rw [List.length_set, List.length_set, nxI_len] at ht
  rw [getD_setI _ _ _ _ (by rw [List.length_set, nxI_len]; omega), getD_setI _ _ _ _ (by rw [nxI_len]; omega), nxI_at (by omega), nxI_at (by omega)]
  unfold nxF
  by_cases e : t = k + 2
  · rw [if_pos e, if_neg (by omega), if_pos (by omega), show t - 1 = k + 1 by omega]
  · rw [if_neg e]
    by_cases e1 : t = 1
    · rw [if_pos e1, if_pos e1]
    · rw [if_neg e1, if_neg e1, if_neg e1]
      by_cases h : 2 ≤ t ∧ t ≤ k + 1 ∧ t ≤ q
      · rw [if_pos h, if_pos (by omega)]
      · rw [if_neg h, if_neg (by omega)]
theorem nx_end (q i : Nat) (hq : 1 ≤ q) : nxI q i q = lrI q (i + 1) := by
  refine list_eq (by simp [nxI, lrI]) fun t ht => ?_
  rw [nxI_len] at ht
  rw [nxI_at (by omega), lrI_at (by omega)]
  unfold nxF
  by_cases e : t = 1
  · rw [if_pos e, e, lastR_one q i hq, lastR_sum]
  · rw [if_neg e]
    by_cases e0 : t = 0
    · subst e0; rw [if_neg (by omega)]; unfold lastR; rw [if_neg (by omega)]
    · obtain ⟨s, rfl⟩ : ∃ s, t = s + 1 := ⟨t - 1, by omega⟩
      rw [lastR_next q i s (by omega), if_pos (by omega), if_pos (by omega), Nat.add_sub_cancel]
theorem lastR_small (q i k : Nat) (hi : i + 2 ≤ 51) : lastR q i k ≤ 2251799813685248 := Nat.le_trans (lastR_le q i k) (Nat.pow_le_pow_right (show 0 < 2 by omega) hi)
theorem sum1_part (h : Nat → Nat) : ∀ n m, m ≤ n → sum1 h m ≤ sum1 h n
  | 0, m, e => by obtain rfl : m = 0 := by omega
                  exact Nat.le_refl _
  | n + 1, m, e => by
    by_cases e1 : m = n + 1
    · subst e1; exact Nat.le_refl _
    · have := sum1_part h n m (by omega)
      rw [sum1]; omega
theorem sumR_small (q i m : Nat) (hi : i + 1 ≤ 50) (hm : m ≤ q) : sum1 (lastR q i) m ≤ 2251799813685248 := by
  have h1 := sum1_part (lastR q i) q m hm
  have h2 := wy_small q (i + 1) hi
  rw [lastR_sum] at h1
  omega
/-- A slice of numbers, all of its row, owned since w0. -/
def OwnI (w0 wr : World) (g n : Nat) (xs : List Int) : Prop := wr.ownsRow w0.heap.size 2 1 (.slice (some ⟨g, 0, none⟩) n n) n (xs.map (Value.int .i64)) ∧ Below w0.heap.size w0 wr
theorem OwnI.cell {w0 wr : World} {g n : Nat} {xs : List Int} (h : OwnI w0 wr g n xs) {j : Nat} (hj : j < n) : wr.cell? ⟨g, j, none⟩ = some (.int .i64 (xs.getD j 0)) := by
  obtain ⟨b, off, e, c⟩ := (IsInts.of_own h.1).at hj
  simp only [Option.some.injEq, Addr.mk.injEq] at e
  obtain ⟨rfl, rfl, _⟩ := e
  rwa [Nat.zero_add] at c
theorem OwnI.frozen {w0 wr : World} {g n : Nat} {xs : List Int} (h : OwnI w0 wr g n xs) (j : Nat) : wr.frozen? ⟨g, j, none⟩ = false := h.1.frozenAt j
theorem OwnI.set {w0 wr : World} {g n : Nat} {xs : List Int} (h : OwnI w0 wr g n xs) (j : Nat) (v : Int) : OwnI w0 (wr.setCell ⟨g, j, none⟩ (.int .i64 v)) g n (xs.set j v) := by
  have hs := h.1.stored j (.int .i64 v)
  rw [← List.map_set] at hs
  exact ⟨hs.1, h.2.grown hs.2 h.2.size (fun k hk => (h.1.lt k (by simpa [Value.ownBlock] using hk)).1)⟩
theorem OwnI.drew {w0 wr : World} {g n : Nat} {xs : List Int} (h : OwnI w0 wr g n xs) : OwnI w0 wr.drew g n xs := ⟨h.1.drew, h.2.drew⟩
theorem OwnI.base {w w0 wr : World} {g n : Nat} {xs : List Int} (hb : Below w.heap.size w w0) (h : OwnI w0 wr g n xs) : OwnI w wr g n xs := ⟨own_mono h.1 hb.size, bthen hb h.2⟩
theorem OwnI.after {w0 wr w' : World} {g n : Nat} {xs : List Int} (h : OwnI w0 wr g n xs) (hb : Below wr.heap.size wr w') : OwnI w0 w' g n xs := ⟨own_below h.1 hb, bthen h.2 hb⟩
theorem OwnI.lt {w0 wr : World} {g n : Nat} {xs : List Int} (h : OwnI w0 wr g n xs) : w0.heap.size ≤ g ∧ g < wr.heap.size := h.1.lt g rfl
end Go.Proofs.YtlckamnadddlmaaDoor

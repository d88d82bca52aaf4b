import Derived.Test.YtgfkaldndaepfaaDoorLawP
import Derived.Test.YtgfkaldndaepfaaDoorAnnL
import Derived.Test.YtgfkaldndaepfaaDoorFixed
/- The facts that the law FnSquares asks: the least degree of an annihilator is at most half of the inputs and at most the degree; the squares of the spectrum by shifts; fixed shifts make fixed shifts. Plain facts. No condition. -/
namespace Go.Proofs.YtgfkaldndaepfaaDoor
open Go.RowKit
set_option linter.unusedVariables false

theorem adGo_le {h : Bool → Nat → Bool} : ∀ (f d m : Nat), d ≤ m → m < d + f → (h false m || h true m) = true → adGo h f d ≤ m
  | 0, d, m, h1, h2, _ => by omega
  | f + 1, d, m, h1, h2, h3 => by
    rw [adGo]
    split
    · exact h1
    · rename_i hn
      have : d ≠ m := fun e => hn (by rw [e]; exact h3)
      exact adGo_le f (d + 1) m (by omega) (by omega) h3
theorem dgF_ge {g : Nat → Bool} {u : Nat} (hu : g u = true) : ∀ m, u < m → pop6 u ≤ dgF g m
  | 0, h => by omega
  | m + 1, h => by
    rw [dgF]
    by_cases e : u = m
    · subst e; rw [if_pos hu]; omega
    · have := dgF_ge hu m (by omega)
      split <;> omega
theorem dgF_six (g : Nat → Bool) : ∀ m, m ≤ 64 → dgF g m ≤ 6
  | 0, _ => by simp [dgF]
  | m + 1, h => by
    have h1 := dgF_six g m (by omega)
    have h2 := (pop6_step m (by omega)).2
    rw [dgF]
    split <;> omega
theorem anV_le {s : ByteArray} {k : Nat} (hk : k < 7) (hs : s.size = 2 ^ k) (hi : inpI s = k) : anV s ≤ ((k + 1) / 2 : Nat) ∧ anV s ≤ dgV s ∧ 0 ≤ anV s := by
  have hki : (inpI s).toNat = k := by rw [hi]; rfl
  refine ⟨?_, ?_, Int.natCast_nonneg _⟩
  · unfold anV
    have h := adGo_le (h := anH s) 7 0 ((k + 1) / 2) (by omega) (by omega) (by
      rcases ann_half (bitF s) hk (Nat.le_refl _) (by omega) with h | h
      · rw [show anH s false ((k + 1) / 2) = true from by unfold anH; rw [hki]; exact annB_true h]; rfl
      · rw [show anH s true ((k + 1) / 2) = true from by unfold anH; rw [hki]; exact annB_true h]; simp)
    omega
  · unfold anV dgV
    have h64 := pow_le_64 k hk
    have hsz : s.size ≤ 64 := by omega
    have h6 := dgF_six (nfB (bitF s)) s.size hsz
    have h := adGo_le (h := anH s) 7 0 (dgF (nfB (bitF s)) s.size) (by omega) (by omega) (by
      rcases ann_own (bitF s) (d := ((dgF (nfB (bitF s)) s.size : Nat) : Int)) hk (by omega) (fun u hu hn => by have := dgF_ge hn s.size (by omega); omega) with h | h
      · rw [show anH s false (dgF (nfB (bitF s)) s.size) = true from by unfold anH; rw [hki]; exact annB_true h]; rfl
      · rw [show anH s true (dgF (nfB (bitF s)) s.size) = true from by unfold anH; rw [hki]; exact annB_true h]; simp)
    omega
/-- The sum that the law makes. -/
def sqS (S : List Int) (v a : Nat) : Int := if pop6 (a &&& v) % 2 = 0 then S.getD a 0 else -S.getD a 0
theorem sqS_le {S : List Int} (h : ∀ a, -64 ≤ S.getD a 0 ∧ S.getD a 0 ≤ 64) (v : Nat) : ∀ m : Nat, -(64 * (m : Int)) ≤ isum (sqS S v) m ∧ isum (sqS S v) m ≤ 64 * m
  | 0 => by simp [isum]
  | m + 1 => by
    have h1 := sqS_le h v m
    have h2 := h m
    have h3 : -64 ≤ sqS S v m ∧ sqS S v m ≤ 64 := by unfold sqS; split <;> omega
    simp only [isum]
    push_cast
    omega
theorem sqS_sum {s : ByteArray} {k v : Nat} (hk : k < 7) (hs : s.size = 2 ^ k) (hv : v < s.size) : isum (sqS (shL s) v) s.size = (spS' s).getD v 0 * (spS' s).getD v 0 := by
  have h64 := pow_le_64 k hk
  have h := shifts_square (sgF s) (k := k) (w := v) hk
  rw [← hs] at h
  rw [spS'_at hv, ← h]
  refine isum_congr _ fun a ha => ?_
  have hq : a &&& v < 64 := Nat.lt_of_le_of_lt Nat.and_le_left (by omega)
  have hp := par6_pop (a &&& v) hq
  unfold sqS spS
  rw [shL_at ha, Nat.and_comm v a, hp]
  by_cases e : pop6 (a &&& v) % 2 = 0
  · rw [if_pos e, e]; simp
  · rw [if_neg e, show pop6 (a &&& v) % 2 = 1 by omega]; simp
theorem fx_mem {s : ByteArray} {z : Int} : z ∈ fxL s ↔ ∃ a : Nat, z = (a : Int) ∧ a < s.size ∧ ((shL s).getD a 0).natAbs = s.size := by
  unfold fxL fxP
  simp only [List.mem_map, List.mem_filter, List.mem_range, beq_iff_eq]
  constructor
  · rintro ⟨a, ⟨h1, h2⟩, rfl⟩; exact ⟨a, rfl, h1, h2⟩
  · rintro ⟨a, rfl, h1, h2⟩; exact ⟨a, ⟨h1, h2⟩, rfl⟩
theorem abs_or {x : Int} {n : Nat} : x.natAbs = n ↔ (x = (n : Int) ∨ x = -(n : Int)) := by omega
theorem fx_zero {s : ByteArray} {k : Nat} (hs : s.size = 2 ^ k) : (0 : Int) ∈ fxL s := by
  have h0 : 0 < s.size := by rw [hs]; exact Nat.two_pow_pos k
  refine fx_mem.2 ⟨0, rfl, h0, ?_⟩
  rw [shL_at h0, abs_or]
  left
  have : shf (sgF s) s.size 0 = isum (fun _ => 1) s.size := by
    unfold shf
    refine isum_congr _ fun x _ => ?_
    rw [Nat.xor_zero]
    rcases sgF_or s x with h | h <;> rw [h] <;> rfl
  rw [this]
  generalize s.size = n
  induction n with
  | zero => rfl
  | succ n ih => simp only [isum]; rw [ih]; push_cast; rfl
theorem fx_xor {s : ByteArray} {k a b : Nat} (hk : k < 7) (hs : s.size = 2 ^ k) (ha : ((a : Nat) : Int) ∈ fxL s) (hb : ((b : Nat) : Int) ∈ fxL s) : (((a ^^^ b : Nat)) : Int) ∈ fxL s := by
  obtain ⟨a', e1, h1, h2⟩ := fx_mem.1 ha
  obtain ⟨b', e2, h3, h4⟩ := fx_mem.1 hb
  obtain rfl : a = a' := by omega
  obtain rfl : b = b' := by omega
  have hx : a ^^^ b < s.size := by rw [hs] at *; exact Nat.xor_lt_two_pow h1 h3
  refine fx_mem.2 ⟨a ^^^ b, rfl, hx, ?_⟩
  rw [shL_at h1, abs_or] at h2
  rw [shL_at h3, abs_or] at h4
  rw [shL_at hx, abs_or]
  rw [hs] at h1 h2 h4 ⊢
  exact fixed_xor (sgF s) (sgF_or s) h1 h2 h4
theorem mem_at {L : List Int} {z : Int} (h : z ∈ L) : ∃ j, j < L.length ∧ L.getD j 0 = z := by
  obtain ⟨i, hi, e⟩ := List.mem_iff_getElem.1 h
  exact ⟨i, hi, by simp [List.getD, hi, e]⟩
theorem at_mem {L : List Int} {j : Nat} (h : j < L.length) : L.getD j 0 ∈ L := by
  simp only [List.getD, List.getElem?_eq_getElem h, Option.getD_some]
  exact List.getElem_mem h
end Go.Proofs.YtgfkaldndaepfaaDoor

import Derived.Test.YtgfkaldndaepfaaDoorLawW
/- The law FnParseval: the squares of the spectrum, the nearest sum. Condition: the arguments are few bytes (else the law returns true at once). -/
namespace Go.Proofs.YtgfkaldndaepfaaDoor
open Go.RowKit
set_option linter.unusedVariables false

theorem isT_size {s : ByteArray} {k : Nat} (hk : k < 7) (hs : s.size = 2 ^ k) (hb : isB s = true) : isT s = true ∧ inpN s = some k := by
  have := inpN_of hb hk hs
  exact ⟨by unfold isT; rw [this]; rfl, this⟩
theorem tabV_yes {s : ByteArray} (h : isT s = true) (z : Int) : tabV s z = z := by unfold tabV; rw [h]; rfl
theorem tabL_yes {s : ByteArray} (h : isT s = true) (L : List Int) : tabL s L = L := by unfold tabL; rw [h]; rfl
theorem sq_le {x : Int} (h : -64 ≤ x ∧ x ≤ 64) : 0 ≤ x * x ∧ x * x ≤ 4096 := by
  have h1 : x.natAbs ≤ 64 := by omega
  have h2 : x * x = ((x.natAbs * x.natAbs : Nat) : Int) := Int.natAbs_mul_self.symm
  rw [h2]
  have := Nat.mul_le_mul h1 h1
  omega
theorem isq_le {L : List Int} (h : ∀ a, -64 ≤ L.getD a 0 ∧ L.getD a 0 ≤ 64) : ∀ m : Nat, 0 ≤ isum (fun a => L.getD a 0 * L.getD a 0) m ∧ isum (fun a => L.getD a 0 * L.getD a 0) m ≤ 4096 * m
  | 0 => by simp [isum]
  | m + 1 => by
    have h1 := isq_le h m
    have h2 := sq_le (h m)
    simp only [isum]
    push_cast
    omega
/-- The facts on a table that the law asks. -/
structure ParF (s : ByteArray) (L : List Int) (n : Nat) (A E : Nat) (far : Int) : Prop where
  len : L.length = n
  small : ∀ a, -64 ≤ L.getD a 0 ∧ L.getD a 0 ≤ 64
  sq : isum (fun a => L.getD a 0 * L.getD a 0) n = (n : Int) * n
  near : A < n
  own : ((dfF (bitF s) A (decide (L.getD A 0 < 0)) n : Nat) : Int) = far
  other : ∀ b e, b < n → far ≤ (dfF (bitF s) b e n : Nat)
theorem parF {s : ByteArray} {k : Nat} (hk : k < 7) (hs : s.size = 2 ^ k) (hb : isB s = true) : ParF s (spS' s) s.size (nrS s).1 0 (nrD s) ∧ (nrS s).2.1 = if (spS' s).getD (nrS s).1 0 < 0 then 1 else 0 := by
  have hn1 : 0 < s.size := by rw [hs]; exact Nat.two_pow_pos k
  have hsz : s.size ≤ 64 := by have := pow_le_64 k hk; omega
  have hok := (nrA_ok (spS' s) s.size (spS'_abs s) s.size).2.2 hn1
  have hat := nrA_at (spS' s) s.size hn1
  have hW : ∀ b e, b < s.size → 2 * ((dfF (bitF s) b e s.size : Nat) : Int) = s.size - (if e then -1 else 1) * (spS' s).getD b 0 := fun b e hb => by
    rw [dfF_sum, spS'_at hb]; rfl
  refine ⟨⟨spS'_len s, fun a => spS'_bound s a hsz, ?_, hok.1, ?_, ?_⟩, hok.2⟩
  · have h := parseval (sgF s) (sgF_or s) hk
    rw [← hs] at h
    rw [← h]
    exact isum_congr _ fun a ha => by rw [spS'_at ha]
  · unfold nrD
    exact (near_own hat rfl (hW _ _ hok.1)).symm
  · intro b e hb
    unfold nrD
    exact near_other (nrA_max (spS' s) s.size b hb) (hW b e hb)
end Go.Proofs.YtgfkaldndaepfaaDoor

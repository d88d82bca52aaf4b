import Derived.Test.YtlckamnadddlmaaGreatBase
import Derived.Deep.SlicePairs
import Derived.Lib.SmallJoins
import Derived.RowKit3
/- A law handed over as a struct of two slices, read as two lists. No condition. -/
namespace Go.Proofs.YtlckamnadddlmaaGreat
open Go.ChangeShapes Go.WideShapes Go.RowKit
set_option linter.unusedVariables false

theorem spot_int {w : World} {x : Addr} {n : Int} (h0 : w.cell? (x.add 0) = some (.int .i64 n)) : x.spot = none := by
  cases hs : x.spot with
  | none => rfl
  | some s =>
    have : x.add 0 = x := by simp [Addr.add]
    rw [this] at h0
    simp only [World.cell?, hs, Option.isSome_some, if_true] at h0
    split at h0 <;> simp_all
theorem add_flat (b off j : Nat) : (⟨b, off, none⟩ : Addr).add j = ⟨b, off + j, none⟩ := by
  unfold Addr.add
  split
  · rename_i h; subst h; rfl
  · rfl
section
variable {H : Type} {enc : TypeId × Value → H} {P : Program} {w : World} {base : Nat} {held : Bool}
theorem read_ints {t e : TypeId} {fuel : Nat} {c : Value} {y : DataW H × List MemPlace} (ht : P.underlying t = some (.slice e)) (he : P.underlying e = some (.int .i64)) (hc : P.cellsOf e = 1)
    (h : DataW.trod enc P w base (fun _ => true) held fuel t [c] = some y) : ∃ a len cap zs, c = .slice a len cap ∧ len ≤ maxLen ∧ IsInts w a len zs := by
  rcases open_ints ht he hc h with ⟨hcs, _⟩ | ⟨x, l, cap, zs, hcs, _, hl, hm, hz, _, hcell, hwz⟩
  · simp only [List.cons.injEq, and_true] at hcs
    exact ⟨none, 0, 0, [], hcs, Nat.zero_le _, IsInts.nil⟩
  · simp only [List.cons.injEq, and_true] at hcs
    exact ⟨some x, l, cap, zs.take l, hcs, by omega, (isInts_of_row (.inr ⟨x, rfl, hl, hm, by simpa using hz, hcell, hwz⟩)).1⟩
theorem read_pairs {t e q : TypeId} {f0 f1 : Field} {fuel : Nat} {c : Value} {y : DataW H × List MemPlace} (ht : P.underlying t = some (.slice e)) (he : P.underlying e = some (.struct #[f0, f1]))
    (ce : P.cellsOf e = 2) (o0 : f0.offset = 0) (o1 : f1.offset = 1) (t0 : f0.type = q) (t1 : f1.type = q) (hq : P.underlying q = some (.int .i64)) (cq : P.cellsOf q = 1)
    (h : DataW.trod enc P w base (fun _ => true) held fuel t [c] = some y) : ∃ a len cap fs, c = .slice a len cap ∧ len ≤ maxLen ∧ IsInts w a (len * 2) fs := by
  rcases Deep.open_slice_pairs ht he ce o0 o1 (by rw [t0]; exact cq) (by rw [t1]; exact cq) h with ⟨hcs, _⟩ | ⟨x, len, cap, m, n, V0, V1, D0, D1, P0, P1, hcs, _, hl, hmx, hm, _, hf⟩
  · simp only [List.cons.injEq, and_true] at hcs
    exact ⟨none, 0, 0, [], hcs, Nat.zero_le _, IsInts.nil⟩
  · simp only [List.cons.injEq, and_true] at hcs
    have hlm : len ≤ m := by simp at hm; omega
    have each : ∀ j, j < len * 2 → ∃ z : Int, w.cell? (x.add j) = some (.int .i64 z) := by
      intro j hj
      obtain ⟨h0, h1, h2, h3⟩ := hf (j / 2) (by omega)
      rw [t0] at h2
      rw [t1] at h3
      obtain ⟨z0, e0, _, _⟩ := DataW.trod_int hq h2
      obtain ⟨z1, e1, _, _⟩ := DataW.trod_int hq h3
      simp only [List.cons.injEq, and_true] at e0 e1
      rcases (show j % 2 = 0 ∨ j % 2 = 1 by omega) with hj2 | hj2
      · refine ⟨z0, ?_⟩
        rw [show j / 2 * 2 = j by omega, e0] at h0
        exact h0
      · refine ⟨z1, ?_⟩
        rw [show j / 2 * 2 + 1 = j by omega, e1] at h1
        exact h1
    refine ⟨some x, len, cap, (List.range (len * 2)).map fun j => match w.cell? (x.add j) with | some (.int _ z) => z | _ => 0, hcs, by omega, by simp, fun j hj => ?_⟩
    obtain ⟨z0, hz0⟩ := each 0 (by omega)
    obtain ⟨z, hz⟩ := each j hj
    have hsp := spot_int hz0
    obtain ⟨b, off, sp⟩ := x
    simp only at hsp
    subst hsp
    refine ⟨b, off, rfl, ?_⟩
    rw [← add_flat, hz]
    simp [List.getD, hj, hz]
end
end Go.Proofs.YtlckamnadddlmaaGreat

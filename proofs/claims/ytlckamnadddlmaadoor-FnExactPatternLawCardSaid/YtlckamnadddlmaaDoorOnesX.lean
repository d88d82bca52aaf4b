import Derived.Test.YtlckamnadddlmaaDoorLawY
import Derived.Test.YtlckamnadddlmaaDoorLawOX
import Derived.Test.YtlckamnadddlmaaDoorChoo
/- The law of the number of ones: program and reference, given the program's lawOf. -/
namespace Go.Proofs.YtlckamnadddlmaaDoor
open Go.RowKit
set_option linter.unusedVariables false

/-- What lawOf answers, for all counts. -/
def LawOfC : Prop := ∀ (first : Int) (a : Option Addr) (len cap : Nat) (cs : List Int) (all : Nat) (w : World), IsInts w a len cs → len ≤ 1000 → (-1000000 ≤ first ∧ first ≤ 1000000) → 0 < all → all ≤ 1000000000000000000 → (∀ i, i < len → cs.getD i 0 ≤ 1000000000000000000) →
    Calls Tryd.prog 15 #[.int .i64 first, .slice a len cap, .int .i64 (all : Nat)] w (RetLw w (lvT first cs len) (lfT cs all len))
theorem law_box {w2 : World} {B r : Nat} {V C : Value} {vs fs : List Int} (h : LawAt w2 B V C vs fs) (hr : r < B) : LawAt ((w2.setCell ⟨r, 0, none⟩ V).setCell ⟨r, 1, none⟩ C) B V C vs fs := by
  have hg := grownBy_trans (grownBy_setCell w2 ⟨r, 0, none⟩ V) (grownBy_setCell (w2.setCell ⟨r, 0, none⟩ V) ⟨r, 1, none⟩ C)
  have aux : ∀ (v : Value) (E sz n : Nat) (xs : List Value), w2.ownsRow B E sz v n xs → v.ownBlock = none ∨ v.ownBlock ≠ some r := fun v E sz n xs ho => by
    cases hv : v.ownBlock with
    | none => exact Or.inl rfl
    | some k =>
      right
      intro e
      have := (ho.lt k hv).1
      cases e
      omega
  exact ⟨h.val.kept hg (aux _ _ _ _ _ h.val), h.cha.kept hg (aux _ _ _ _ _ h.cha), h.dis⟩
theorem below_box {w wA w2 : World} {r : Nat} {u v : Value} (h : Below w.heap.size w w2) (hr : w.heap.size ≤ r) : Below w.heap.size w ((w2.setCell ⟨r, 0, none⟩ u).setCell ⟨r, 1, none⟩ v) := (h.setCell (p := ⟨r, 0, none⟩) hr _).setCell (p := ⟨r, 1, none⟩) hr _
def zeroLaw : Obj := .cells #[.slice none 0 0, .slice none 0 0] 25
theorem pow_cast (n : Nat) (hn : n ≤ 50) : IntKind.i64.wrap ((2 : Int) ^ n) = ((2 ^ n : Nat) : Int) := by
  have h := pow_50 hn
  have e : (2 : Int) ^ n = ((2 ^ n : Nat) : Int) := by simp
  rw [e]
  generalize 2 ^ n = m at h
  exact IntWalk.i64_in _ (by omega)
theorem bin_small (n i : Nat) (hn : n ≤ 50) : bin n i ≤ 1125899906842624 := Nat.le_trans (bin_le_pow n i) (pow_50 hn)
def fairL (V : Nat → List Int) (n : Int) : List Int := if inR n 1 50 then V n.toNat else []
theorem isFair_any (n : Int) (w : World) : Calls Tryd.prog 13 #[.int .i64 n] w fun e w' => e = .returned (.bool (inR n 1 50)) ∧ w = w' := by
  go_enter Tryd.func13, Tryd.ntmps13
  go_wp2_with fail
  refine (inRange_any n 1 50 _).mono ?_
  rintro e w' ⟨rfl, rfl⟩
  go_wp2
  go_ret
  exact ⟨rfl, rfl⟩
theorem l05Fair_any (n : Int) (w : World) : Calls Tryd.prog 9 #[.int .i64 n] w fun e w' => e = .returned (.bool (inR n 1 50)) ∧ w = w' := by
  go_enter Tryd.func9, Tryd.ntmps9
  go_wp2_with fail
  refine (l00In_any n 1 50 _).mono ?_
  rintro e w' ⟨rfl, rfl⟩
  go_wp2
  go_ret
  exact ⟨rfl, rfl⟩
end Go.Proofs.YtlckamnadddlmaaDoor
/- The law of the number of runs: program and reference, given the program's lawOf. -/
namespace Go.Proofs.YtlckamnadddlmaaDoor
open Go.RowKit
set_option linter.unusedVariables false

/-- The counts of runs. -/
def runR (n j : Nat) : List Int := (List.range j).map fun i => 2 * ((bin (n - 1) i : Nat) : Int)
theorem runR_at {n j i : Nat} (h : i < j) : (runR n j).getD i 0 = 2 * ((bin (n - 1) i : Nat) : Int) := by simp [runR, List.getD, h]
theorem runR_succ (n j : Nat) : runR n (j + 1) = runR n j ++ [2 * ((bin (n - 1) j : Nat) : Int)] := by simp [runR, List.range_succ]
theorem lvT_shift (cs : List Int) : ∀ m, lvT 0 (0 :: cs) (m + 1) = lvT 1 cs m
  | 0 => rfl
  | m + 1 => by
    rw [lvT, lvT_shift cs m, lvT, show (0 :: cs).getD (m + 1) 0 = cs.getD m 0 from rfl]
    split
    · congr 2; push_cast; omega
    · rfl
theorem lfT_shift (cs : List Int) (all : Nat) : ∀ m, lfT (0 :: cs) all (m + 1) = lfT cs all m
  | 0 => rfl
  | m + 1 => by rw [lfT, lfT_shift cs all m, lfT, show (0 :: cs).getD (m + 1) 0 = cs.getD m 0 from rfl]
end Go.Proofs.YtlckamnadddlmaaDoor

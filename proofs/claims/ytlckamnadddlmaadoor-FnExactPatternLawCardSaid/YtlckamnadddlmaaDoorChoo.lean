import Derived.Test.YtlckamnadddlmaaDoorOwnX
import Derived.Test.YtlckamnadddlmaaDoorBinX
import Derived.Test.YtlckamnadddlmaaDoorBitsX
import Derived.Test.YtlckamnadddlmaaDoorShelf
import Derived.Deep.LoopGhost
import Derived.Deep.DeepCutAuto
/- Ways to choose, in the program and the reference. Condition: numbers up to 50. -/
namespace Go.Proofs.YtlckamnadddlmaaDoor
open Go.RowKit
set_option linter.unusedVariables false

theorem pow_50 {n : Nat} (hn : n ≤ 50) : 2 ^ n ≤ 1125899906842624 := Nat.pow_le_pow_right (show 0 < 2 by omega) hn
/-- The first j numbers of a row of ways to choose. -/
def binR (n j : Nat) : List Int := (List.range j).map fun i => ((bin n i : Nat) : Int)
theorem binR_len (n j : Nat) : (binR n j).length = j := by simp [binR]
theorem binR_at {n j i : Nat} (h : i < j) : (binR n j).getD i 0 = (bin n i : Nat) := by simp [binR, List.getD, h]
theorem binR_succ (n j : Nat) : binR n (j + 1) = binR n j ++ [((bin n j : Nat) : Int)] := by simp [binR, List.range_succ]
theorem GrowAt.one (w : World) (z : Int) : GrowAt w (w.alloc (.cells #[.int .i64 z] 2)) 2 (.slice (some ⟨w.heap.size, 0, none⟩) 1 1) 1 ([z].map (Value.int .i64)) :=
  ⟨⟨rfl, Or.inr ⟨w.heap.size, 1, _, rfl, Nat.le_refl _, heap_at_new _ _, Nat.le_refl _, by simp [maxLen], rfl, rfl⟩⟩, (Below.refl _ _).alloc (Nat.le_refl _) _⟩
theorem GrowAt.base {w w1 wr : World} {E : TypeId} {v : Value} {n : Nat} {xs : List Value} (hb : Below w.heap.size w w1) (h : GrowAt w1 wr E v n xs) : GrowAt w wr E v n xs := ⟨own_mono h.1 hb.size, bthen hb h.2⟩
theorem GrowAt.i64 {w wr w6 : World} {v v' : Value} {n : Nat} {xs : List Int} {z : Int} {o : Obj} (h : GrowAt w wr 2 v n (xs.map (Value.int .i64))) (hown : w6.ownsRow w.heap.size 2 1 v' (n + 1) (xs.map (Value.int .i64) ++ [.int .i64 z])) (hg : (wr.alloc o).grownBy w6 v.ownBlock) :
    GrowAt w w6 2 v' (n + 1) ((xs ++ [z]).map (Value.int .i64)) := by
  rw [List.map_append]
  exact (h.alloc o).push hown hg
end Go.Proofs.YtlckamnadddlmaaDoor

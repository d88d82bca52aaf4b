import Derived.Test.YtlckamnadddlmaaGreatDoorFrX
import Derived.Test.YtlckamnadddlmaaGreatDoorFrS
/- What a law on laws does with its argument: its size, its copy, and whether two laws are the same. -/
namespace Go.Proofs.YtlckamnadddlmaaGreatDoor
open Go.RowKit
set_option linter.unusedVariables false

theorem Tryz.infoFr2 : (Tryz.prog.info? 44).map (fun i => (i.zero, i.size, i.bytes)) = some (some (.agg #[.int .i64 0, .int .i64 0]), 2, 16) := by kernel_rfl
theorem zeros_two (n : Nat) : (madeCells #[Value.int .i64 0, Value.int .i64 0] n).toList = (List.replicate n (0 : Int)).map (Value.int .i64) := by
  apply List.ext_getElem
  · simp [size_madeCells]
  · intro i h1 h2
    simp only [madeCells, Array.toList_map, List.getElem_map, List.getElem_replicate, Array.toList_range, List.getElem_range]
    have : i % 2 = 0 ∨ i % 2 = 1 := by omega
    rcases this with h | h <;> simp [h]

theorem own_set {w : World} {B T sz : Nat} {v : Value} {n : Nat} {xs : List Value} (h : w.ownsRow B T sz v n xs) {b : Nat} (hb : b < B) (o : Nat) (u : Value) : (w.setCell ⟨b, o, none⟩ u).ownsRow B T sz v n xs := by
  refine own_grown h (u := .slice (some ⟨b, 0, none⟩) 0 0) (grownBy_setCell w ⟨b, o, none⟩ u) ?_
  cases hv : v.ownBlock with
  | none => exact Or.inl hv
  | some k =>
    right
    rw [hv]
    intro he
    have h1 := (h.lt k hv).1
    simp only [Value.ownBlock, Option.some.injEq] at he
    omega
/-- A law of the call's own: both lists owned, apart. -/
structure Law2 (w : World) (B g1 g2 c1 c2 n m : Nat) (vs fs : List Int) : Prop where
  val : w.ownsRow B 2 1 (.slice (some ⟨g1, 0, none⟩) n c1) n (vs.map (Value.int .i64))
  cha : w.ownsRow B 44 2 (.slice (some ⟨g2, 0, none⟩) m c2) m (fs.map (Value.int .i64))
  ne : g1 ≠ g2
theorem Law2.below {w w' : World} {B g1 g2 c1 c2 n m : Nat} {vs fs : List Int} (h : Law2 w B g1 g2 c1 c2 n m vs fs) (hb : Below w.heap.size w w') : Law2 w' B g1 g2 c1 c2 n m vs fs := ⟨own_below h.val hb, own_below h.cha hb, h.ne⟩
theorem Law2.mono {w : World} {B B' g1 g2 c1 c2 n m : Nat} {vs fs : List Int} (h : Law2 w B g1 g2 c1 c2 n m vs fs) (hB : B' ≤ B) : Law2 w B' g1 g2 c1 c2 n m vs fs := ⟨own_mono h.val hB, own_mono h.cha hB, h.ne⟩
theorem Law2.ints {w : World} {B g1 g2 c1 c2 n m : Nat} {vs fs : List Int} (h : Law2 w B g1 g2 c1 c2 n m vs fs) : IsInts w (some ⟨g1, 0, none⟩) n vs ∧ IsInts w (some ⟨g2, 0, none⟩) (m * 2) fs := ⟨IsInts.of_own h.val, IsInts.of_own2 h.cha⟩
def RetLaw2 (w : World) (n m : Nat) (vs fs : List Int) (e : Ending) (w' : World) : Prop := ∃ g1 c1 g2 c2, e = .returned (.agg #[.slice (some ⟨g1, 0, none⟩) n c1, .slice (some ⟨g2, 0, none⟩) m c2]) ∧ Law2 w' w.heap.size g1 g2 c1 c2 n m vs fs ∧ Below w.heap.size w w'
end Go.Proofs.YtlckamnadddlmaaGreatDoor
/- The law on valid laws. No condition. -/
namespace Go.Proofs.YtlckamnadddlmaaGreatDoor
open Go.RowKit
set_option linter.unusedVariables false

/-- What a law's walk carries: the box with its argument, the argument's lists, and what was there. -/
structure LwI (w : World) (V C : Value) (a1 a2 : Option Addr) (n m : Nat) (vs fs : List Int) (wr : World) : Prop where
  bx : C2 wr w.heap.size V C
  val : IsInts wr a1 n vs
  cha : IsInts wr a2 (m * 2) fs
  bel : Below w.heap.size w wr
theorem LwI.all {w wr wx : World} {V C : Value} {a1 a2 : Option Addr} {n m : Nat} {vs fs : List Int} (h : LwI w V C a1 a2 n m vs fs wr) (hb : Below wr.heap.size wr wx) : LwI w V C a1 a2 n m vs fs wx := ⟨h.bx.all hb, h.val.below hb, h.cha.below hb, bthen h.bel hb⟩
theorem LwI.start {w : World} {V C : Value} {a1 a2 : Option Addr} {n m : Nat} {vs fs : List Int} (h1 : IsInts w a1 n vs) (h2 : IsInts w a2 (m * 2) fs) (t : Nat) : LwI w V C a1 a2 n m vs fs (w.alloc (.cells #[V, C] t (0, 0))) :=
  have hb : Below w.heap.size w (w.alloc (.cells #[V, C] t (0, 0))) := (Below.refl _ _).alloc (Nat.le_refl _) _
  ⟨C2.new w _ _ _, h1.below hb, h2.below hb, hb⟩
end Go.Proofs.YtlckamnadddlmaaGreatDoor
/- The walks of the laws on functions of a law that answer with a fraction and whether there is one, given what both sides answer. -/
namespace Go.Proofs.YtlckamnadddlmaaGreatDoor
open Go.RowKit
set_option linter.unusedVariables false

end Go.Proofs.YtlckamnadddlmaaGreatDoor

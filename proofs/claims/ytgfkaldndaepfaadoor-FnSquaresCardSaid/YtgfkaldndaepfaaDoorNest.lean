import Derived.Test.YtgfkaldndaepfaaDoorSrc
/- Slices of slices of numbers: what is owned, and the laws' helpers on them. -/
namespace Go.Proofs.YtgfkaldndaepfaaDoor
open Go.RowKit
set_option linter.unusedVariables false

theorem OwnAt.join {w0 w w' : World} {l l1 : List (Nat × (Obj → Prop))} (h : OwnAt w0 w l) (hb : Below w.heap.size w w') (h1 : Owns w' w.heap.size l1) : OwnAt w0 w' (l1 ++ l) := ⟨h.1.join hb h.2.size h1, bthen h.2 hb⟩
theorem OwnAt.perm {w0 w : World} {l l' : List (Nat × (Obj → Prop))} (h : OwnAt w0 w l) (hp : l.Perm l') : OwnAt w0 w l' := ⟨h.1.perm hp, h.2⟩
theorem OwnAt.arg {w0 w : World} {l : List (Nat × (Obj → Prop))} (h : OwnAt w0 w l) {a len zs} (hx : IsInts w0 a len zs) : IsInts w a len zs := hx.below h.2

/-- A flat row as a block, and as a slice. -/
structure Rw where
  g : Nat
  c : Nat
  zs : List Int
def Rw.v (r : Rw) : Value := .slice (some ⟨r.g, 0, none⟩) r.zs.length r.c
def Rw.o (r : Rw) : Nat × (Obj → Prop) := (r.g, rowO 2 r.c (r.zs.map (Value.int .i64)))
theorem Owns.isInts {w : World} {B : Nat} {l : List (Nat × (Obj → Prop))} (h : Owns w B l) (i : Nat) {r : Rw} (hi : l[i]? = some r.o) : IsInts w (some ⟨r.g, 0, none⟩) r.zs.length r.zs := by
  have := (h.rowAt i hi).1
  rw [List.length_map] at this
  exact IsInts.of_own this

end Go.Proofs.YtgfkaldndaepfaaDoor

import Derived.Test.YtklnfhjgbmfilaaOwn
import Derived.Laws.IdiomStrings
import Derived.Laws.BytesArg
/- One slice of the call's own that grows by append, and its bytes as a text. No condition. -/
namespace Go.Proofs.Ytklnfhjgbmfilaa
open Go.RowKit
set_option linter.unusedVariables false

def GrowAt (w0 wr : World) (E : TypeId) (v : Value) (n : Nat) (xs : List Value) : Prop := wr.ownsRow w0.heap.size E 1 v n xs ∧ Below w0.heap.size w0 wr
theorem GrowAt.start (w : World) (E : TypeId) : GrowAt w (w.alloc (.cells #[] E)) E (.slice (some ⟨w.heap.size, 0, none⟩) 0 0) 0 [] :=
  ⟨⟨rfl, Or.inr ⟨w.heap.size, 0, #[], rfl, Nat.le_refl _, heap_at_new w _, by omega, by simp [maxLen], by simp, by simp⟩⟩, (Below.refl _ w).alloc (Nat.le_refl _) _⟩
theorem GrowAt.alloc {w0 wr : World} {E : TypeId} {v : Value} {n : Nat} {xs : List Value} (h : GrowAt w0 wr E v n xs) (o : Obj) : GrowAt w0 (wr.alloc o) E v n xs :=
  ⟨h.1.alloc o, h.2.alloc h.2.size o⟩
theorem GrowAt.drew {w0 wr : World} {E : TypeId} {v : Value} {n : Nat} {xs : List Value} (h : GrowAt w0 wr E v n xs) : GrowAt w0 wr.drew E v n xs := ⟨h.1, h.2.drew⟩
theorem GrowAt.drewN {w0 wr : World} {E : TypeId} {v : Value} {n : Nat} {xs : List Value} (h : GrowAt w0 wr E v n xs) (q : Nat) : GrowAt w0 (wr.drewN q) E v n xs := ⟨h.1, bthen h.2 (drewN_below _ _)⟩
theorem GrowAt.ret {w0 wr w' : World} {E : TypeId} {v : Value} {n : Nat} {xs : List Value} (h : GrowAt w0 wr E v n xs) (hb : Below wr.heap.size wr w') : GrowAt w0 w' E v n xs := ⟨own_below h.1 hb, bthen h.2 hb⟩
theorem GrowAt.push {w0 wr w' : World} {E : TypeId} {v v' : Value} {n : Nat} {xs : List Value} {u : Value} (h : GrowAt w0 wr E v n xs) (hown : w'.ownsRow w0.heap.size E 1 v' (n + 1) (xs ++ [u])) (hg : wr.grownBy w' v.ownBlock) : GrowAt w0 w' E v' (n + 1) (xs ++ [u]) :=
  ⟨hown, below_grown h.2 h.1 hg h.2.size⟩
theorem own_form {w : World} {B E : Nat} {v : Value} {n : Nat} {xs : List Value} (h : w.ownsRow B E 1 v n xs) : ∃ a c, v = .slice a n c := by
  rcases h.2 with ⟨e, h0⟩ | ⟨g, c, cur, e, _⟩
  · exact ⟨none, 0, by rw [e, h0]⟩
  · exact ⟨some ⟨g, 0, none⟩, c, e⟩
/-- The text of the bytes that are owned. -/
theorem conv_own {P : Program} {w : World} {B E : Nat} {v : Value} {n : Nat} {xs : List Int} (src dst : TypeId) (hs : P.underlying src = some (.slice E)) (he : P.underlying E = some (.int .u8)) (hd : P.underlying dst = some .string)
    (h : w.ownsRow B E 1 v n (xs.map (Value.int .u8))) : (convert src dst v).run P w = .ok (.string (strOfNums xs)) w := by
  have hl : xs.length = n := by simpa using h.1
  rcases h.2 with ⟨e, h0⟩ | ⟨g, c, cur, e, _⟩
  · subst e
    have hx : xs = [] := List.eq_nil_of_length_eq_zero (by omega)
    subst hx
    rw [run_convert_bytes_nil w src E hs he 0 0 dst hd]
    rfl
  · subst e
    refine run_convert_bytes_arg w src E hs he g 0 n c xs hl (fun i hi => ?_) dst hd
    rw [Nat.zero_add, h.cellAt i (by omega)]
    simp [List.getD, List.getElem?_eq_getElem (show i < xs.length by omega)]
theorem RetInts.of_grow {w wr : World} {v : Value} {n : Nat} {zs : List Int} (h : GrowAt w wr 2 v n (zs.map (Value.int .i64))) : RetInts w zs (.returned v) wr := by
  obtain ⟨a, c, rfl⟩ := own_form h.1
  have hl : zs.length = n := by simpa using h.1.1
  subst hl
  exact ⟨a, c, rfl, h.1, h.2⟩
end Go.Proofs.Ytklnfhjgbmfilaa

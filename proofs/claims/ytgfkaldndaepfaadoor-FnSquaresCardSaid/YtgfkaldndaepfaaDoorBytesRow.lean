import Derived.Test.YtgfkaldndaepfaaDoorOwn
import Derived.Laws.IdiomStrings
/- A block of bytes made from a text: its spare end is marked, its bytes are free to write. -/
namespace Go.Proofs.YtgfkaldndaepfaaDoor
open Go.RowKit
set_option linter.unusedVariables false

/-- A block that holds the bytes of a text, with room to cap. -/
def rowF (e : TypeId) (cap : Nat) (xs : List Int) (o : Obj) : Prop :=
  ∃ cur, o = .cells cur e (cap, cap + 1) ∧ cur.size = cap ∧ xs.length ≤ cap ∧ cur.toList.take xs.length = xs.map (Value.int .u8)

theorem setCell_F (w : World) (g i : Nat) (cs : Array Value) (t : TypeId) (fr : Nat × Nat) (v : Value) (hg : w.heap[g]? = some (.cells cs t fr)) :
    (w.setCell ⟨g, i, none⟩ v).heap[g]? = some (.cells (cs.setIfInBounds i v) t fr) := by
  simp [World.setCell, Array.getElem?_modify, hg]
theorem Owns.byteAt {w : World} {B : Nat} {l : List (Nat × (Obj → Prop))} (h : Owns w B l) (i : Nat) {g : Nat} {e : TypeId} {cap : Nat} {xs : List Int} (hi : l[i]? = some (g, rowF e cap xs)) (j : Nat) (hj : j < xs.length) : w.cell? ⟨g, j, none⟩ = some (.int .u8 (xs.getD j 0)) := by
  obtain ⟨hB, o, ho, cur, rfl, hs, hl, ht⟩ := h.holds _ (List.mem_of_getElem? hi)
  simp only at ho
  have h1 : cur.toList[j]? = some (.int .u8 (xs.getD j 0)) := by
    have h2 : (cur.toList.take xs.length)[j]? = (xs.map (Value.int .u8))[j]? := by rw [ht]
    rw [List.getElem?_take_of_lt hj] at h2
    rw [h2]
    simp [List.getD, hj]
  have h3 : cur[j]? = some (.int .u8 (xs.getD j 0)) := by rw [← Array.getElem?_toList]; exact h1
  simp [World.cell?, ho, h3]
theorem Owns.byteFree {w : World} {B : Nat} {l : List (Nat × (Obj → Prop))} (h : Owns w B l) (i : Nat) {g : Nat} {e : TypeId} {cap : Nat} {xs : List Int} (hi : l[i]? = some (g, rowF e cap xs)) (j : Nat) (hj : j < xs.length) : w.frozen? ⟨g, j, none⟩ = false := by
  obtain ⟨hB, o, ho, cur, rfl, hs, hl, ht⟩ := h.holds _ (List.mem_of_getElem? hi)
  simp only at ho
  simp only [World.frozen?, ho]
  simp
  omega
theorem Owns.setByte {w : World} {B : Nat} {l : List (Nat × (Obj → Prop))} (h : Owns w B l) (i : Nat) {g : Nat} {e : TypeId} {cap : Nat} {xs : List Int} (hi : l[i]? = some (g, rowF e cap xs)) (j : Nat) (u : Int) : Owns (w.setCell ⟨g, j, none⟩ (.int .u8 u)) B (l.set i (g, rowF e cap (xs.set j u))) := by
  obtain ⟨hB, o, ho, cur, rfl, hs, hl, ht⟩ := h.holds _ (List.mem_of_getElem? hi)
  refine h.upd hi (grownBy_setCell w ⟨g, j, none⟩ _) (Or.inl rfl) hB (setCell_F w g j cur e _ _ ho) ?_
  refine ⟨_, rfl, by simpa using hs, by simpa using hl, ?_⟩
  rw [List.length_set, Array.toList_setIfInBounds, List.take_set, ht, List.map_set]
/-- The bytes of a text as numbers. -/
def bytesOf (s : ByteArray) : List Int := s.data.toList.map (fun b => ((b.toNat : Nat) : Int))
theorem rowF_bytes (s : ByteArray) (e : TypeId) (c : Nat) : rowF e (bytesRow s c).size (bytesOf s) (.cells (bytesRow s c) e ((bytesRow s c).size, (bytesRow s c).size + 1)) := by
  refine ⟨_, rfl, rfl, by simp [bytesOf, bytesRow], ?_⟩
  unfold bytesRow bytesOf
  rw [Array.toList_append, List.length_map, List.take_append_of_le_length (by simp)]
  rw [Array.toList_map, List.take_of_length_le (by simp), List.map_map]
  rfl
end Go.Proofs.YtgfkaldndaepfaaDoor

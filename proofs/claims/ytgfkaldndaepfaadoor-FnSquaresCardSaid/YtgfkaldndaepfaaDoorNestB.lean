import Derived.Test.YtgfkaldndaepfaaDoorNest
import Derived.Test.YtgfkaldndaepfaaDoorDep
/- Slices of slices of bools: what is owned; rows that change places, a row that is put in place of another. -/
namespace Go.Proofs.YtgfkaldndaepfaaDoor
open Go.RowKit
set_option linter.unusedVariables false

/-- A block that came new takes the place of another in the list. -/
theorem Owns.give {w : World} {B : Nat} {l : List (Nat × (Obj → Prop))} {x : Nat × (Obj → Prop)} (h : Owns w B (x :: l)) (i : Nat) : Owns w B (l.set i x) := by
  have hn := h.nd
  rw [List.map_cons, List.nodup_cons] at hn
  refine ⟨?_, fun p hp => ?_⟩
  · rw [List.map_set]
    by_cases hi : i < (l.map Prod.fst).length
    · refine nodup_set_nd (g := (l.map Prod.fst)[i]) hn.2 (by simp [List.getElem?_eq_getElem hi]) fun y hy _ e => ?_
      subst e
      exact hn.1 hy
    · rw [List.set_eq_of_length_le (by omega)]
      exact hn.2
  · rcases List.mem_or_eq_of_mem_set hp with h1 | rfl
    · exact h.holds p (List.mem_cons_of_mem _ h1)
    · exact h.holds _ List.mem_cons_self

/-- A row of bools as a block, and as a slice. -/
structure Rb where
  g : Nat
  c : Nat
  zs : List Bool
def Rb.v (r : Rb) : Value := .slice (some ⟨r.g, 0, none⟩) r.zs.length r.c
def Rb.o (r : Rb) : Nat × (Obj → Prop) := (r.g, rowO 4 r.c (r.zs.map Value.bool))
theorem Tryd.infoLB : (Tryd.prog.info? 54).map (fun i => (i.zero, i.size, i.bytes)) = some (some (.slice none 0 0), 1, 24) := by kernel_rfl
def lbO (go co : Nat) (rs : List Rb) : List (Nat × (Obj → Prop)) := (go, rowO 54 co (rs.map Rb.v)) :: rs.map Rb.o
theorem lbCell {w : World} {B go co : Nat} {rs : List Rb} {post : List (Nat × (Obj → Prop))} (h : Owns w B (lbO go co rs ++ post)) (k : Nat) {r : Rb} (hk : rs[k]? = some r) : w.cell? ⟨go, k, none⟩ = some (.slice (some ⟨r.g, 0, none⟩) r.zs.length r.c) := by
  have hl := (List.getElem?_eq_some_iff.1 hk).1
  rw [h.cellAt 0 rfl k (by simpa using hl)]
  simp [hk, Rb.v]
theorem lbRow {go co : Nat} {rs : List Rb} {post : List (Nat × (Obj → Prop))} (k : Nat) {r : Rb} (hk : rs[k]? = some r) : (lbO go co rs ++ post)[k + 1]? = some r.o := by
  have hl := (List.getElem?_eq_some_iff.1 hk).1
  rw [List.getElem?_append_left (by simp [lbO]; omega)]
  simp [lbO, hk]
theorem lbBit {w : World} {B go co : Nat} {rs : List Rb} {post : List (Nat × (Obj → Prop))} (h : Owns w B (lbO go co rs ++ post)) (k : Nat) {r : Rb} (hk : rs[k]? = some r) (j : Nat) (hj : j < r.zs.length) : w.cell? ⟨r.g, j, none⟩ = some (.bool (r.zs.getD j false)) :=
  h.boolAt (k + 1) (lbRow k hk) j hj
theorem lbCell0 {w : World} {B go co : Nat} {rs : List Rb} (h : Owns w B (lbO go co rs)) (k : Nat) {r : Rb} (hk : rs[k]? = some r) : w.cell? ⟨go, k, none⟩ = some (.slice (some ⟨r.g, 0, none⟩) r.zs.length r.c) :=
  lbCell (post := []) (by rw [List.append_nil]; exact h) k hk
theorem lbBit0 {w : World} {B go co : Nat} {rs : List Rb} (h : Owns w B (lbO go co rs)) (k : Nat) {r : Rb} (hk : rs[k]? = some r) (j : Nat) (hj : j < r.zs.length) : w.cell? ⟨r.g, j, none⟩ = some (.bool (r.zs.getD j false)) :=
  lbBit (post := []) (by rw [List.append_nil]; exact h) k hk j hj
theorem Rb.own {w0 w : World} {r : Rb} {L : List (Nat × (Obj → Prop))} (h : OwnAt w0 w (r.o :: L)) (b : Bool) : (w.alloc (.cells #[.bool b] 4)).ownsRow w0.heap.size 4 1 (.slice (some ⟨r.g, 0, none⟩) r.zs.length r.c) r.zs.length (r.zs.map Value.bool) := by
  have := ((h.1.alloc (.cells #[.bool b] 4)).rowAt 0 rfl).1
  rwa [List.length_map] at this
/-- A bool was appended to a row. -/
theorem Rb.push {w0 w w' : World} {r : Rb} {L : List (Nat × (Obj → Prop))} (h : OwnAt w0 w (r.o :: L)) {b : Bool} {v' : Value} (hown : w'.ownsRow w0.heap.size 4 1 v' (r.zs.length + 1) (r.zs.map Value.bool ++ [.bool b]))
    (hg : (w.alloc (.cells #[.bool b] 4)).grownBy w' (some r.g)) (hat : v'.ownBlock = some r.g ∨ v'.ownBlock = some (w.alloc (.cells #[.bool b] 4)).heap.size) :
    ∃ g2 c2, v' = .slice (some ⟨g2, 0, none⟩) (r.zs.length + 1) c2 ∧ OwnAt w0 w' (Rb.o ⟨g2, c2, r.zs ++ [b]⟩ :: L) := by
  obtain ⟨g2, c2, rfl, O2⟩ := (h.1.alloc (.cells #[.bool b] 4)).ap 0 rfl hown hg hat
  refine ⟨g2, c2, rfl, ?_, (h.2.alloc h.2.size _).grown hg (by simp only [alloc_size]; have := h.2.size; omega) (fun j hj => ?_)⟩
  · simpa [Rb.o] using O2
  · have := (h.1.lt (List.mem_of_getElem? (i := 0) rfl)).1
    simp at hj; simp [Rb.o] at this; omega
theorem lbOwn {w0 w : World} {r : Rb} {go co : Nat} {rs : List Rb} (h : OwnAt w0 w (r.o :: lbO go co rs)) : (w.alloc (.cells #[r.v] 54)).ownsRow w0.heap.size 54 1 (.slice (some ⟨go, 0, none⟩) rs.length co) rs.length (rs.map Rb.v) := by
  have := ((h.1.alloc (.cells #[r.v] 54)).rowAt 1 rfl).1
  rwa [List.length_map] at this
/-- A row was appended to the rows. -/
theorem lbPush {w0 w w' : World} {r : Rb} {go co : Nat} {rs : List Rb} (h : OwnAt w0 w (r.o :: lbO go co rs)) {v' : Value} (hown : w'.ownsRow w0.heap.size 54 1 v' (rs.length + 1) (rs.map Rb.v ++ [r.v]))
    (hg : (w.alloc (.cells #[r.v] 54)).grownBy w' (some go)) (hat : v'.ownBlock = some go ∨ v'.ownBlock = some (w.alloc (.cells #[r.v] 54)).heap.size) :
    ∃ g2 c2, v' = .slice (some ⟨g2, 0, none⟩) (rs.length + 1) c2 ∧ OwnAt w0 w' (lbO g2 c2 (rs ++ [r])) := by
  obtain ⟨g2, c2, rfl, O2⟩ := (h.1.alloc (.cells #[r.v] 54)).ap 1 rfl hown hg hat
  refine ⟨g2, c2, rfl, O2.perm ?_, (h.2.alloc h.2.size _).grown hg (by simp only [alloc_size]; have := h.2.size; omega) (fun j hj => ?_)⟩
  · unfold lbO
    rw [List.map_append, List.map_append]
    exact (List.Perm.swap _ _ _).trans (.cons _ (List.perm_append_comm (l₁ := [r.o])))
  · have := (h.1.lt (List.mem_of_getElem? (i := 1) rfl)).1
    simp at hj; simp at this; omega
/-- A new row stands in place of row k. -/
theorem lbPut {w : World} {B go co : Nat} {rs : List Rb} {n : Rb} (h : Owns w B (n.o :: lbO go co rs)) (k : Nat) (hk : k < rs.length) : Owns (w.setCell ⟨go, k, none⟩ n.v) B (lbO go co (rs.set k n)) := by
  have h1 := h.setRow 1 rfl k n.v
  have h2 : Owns (w.setCell ⟨go, k, none⟩ n.v) B (n.o :: lbO go co rs |>.set 1 (go, rowO 54 co ((rs.map Rb.v).set k n.v))) := h1
  have h3 := Owns.give (x := n.o) (l := (go, rowO 54 co ((rs.map Rb.v).set k n.v)) :: rs.map Rb.o) h2 (k + 1)
  simpa [lbO, List.map_set] using h3
/-- Two rows change places. -/
theorem lbSwap {w : World} {B go co : Nat} {rs : List Rb} {i j : Nat} {ri rj : Rb} (h : Owns w B (lbO go co rs)) (hi : rs[i]? = some ri) (hj : rs[j]? = some rj) :
    Owns ((w.setCell ⟨go, i, none⟩ rj.v).setCell ⟨go, j, none⟩ ri.v) B (lbO go co ((rs.set i rj).set j ri)) := by
  obtain ⟨hil, hie⟩ := List.getElem?_eq_some_iff.1 hi
  obtain ⟨hjl, hje⟩ := List.getElem?_eq_some_iff.1 hj
  have h1 := h.setRow 0 rfl i rj.v
  have h2 := h1.setRow 0 rfl j ri.v
  have hp : List.Perm ((rs.set i rj).set j ri) rs := by
    rw [← hie, ← hje]
    exact List.set_set_perm hil hjl
  have h3 : Owns ((w.setCell ⟨go, i, none⟩ rj.v).setCell ⟨go, j, none⟩ ri.v) B ((go, rowO 54 co (((rs.set i rj).set j ri).map Rb.v)) :: rs.map Rb.o) := by
    simpa [lbO, List.map_set] using h2
  exact h3.perm (List.Perm.cons _ ((hp.map Rb.o).symm))
/-- The bit of row i at x. -/
def bitR (L : List (List Bool)) (i x : Nat) : Bool := (L.getD i []).getD x false
theorem getD_set {α : Type} (L : List α) (i : Nat) (v d : α) (j : Nat) (hi : i < L.length) : (L.set i v).getD j d = if j = i then v else L.getD j d := by
  by_cases e : j = i
  · subst e
    simp [List.getD, hi]
  · rw [if_neg e]
    simp [List.getD, Ne.symm e]
theorem bitR_at {L : List Rb} {i : Nat} {q : Rb} (h : L[i]? = some q) (x : Nat) : bitR (L.map Rb.zs) i x = q.zs.getD x false := by
  unfold bitR
  simp [List.getD, h]
theorem bitR_put (L : List (List Bool)) (i : Nat) (v : List Bool) (hi : i < L.length) (j x : Nat) : bitR (L.set i v) j x = if j = i then v.getD x false else bitR L j x := by
  unfold bitR
  rw [getD_set _ _ _ _ _ hi]
  split <;> rfl
/-- Two rows change places, bit by bit. -/
theorem bitR_swap {L : List Rb} {a r : Nat} {qa qr : Rb} (ha : L[a]? = some qa) (hr : L[r]? = some qr) (j x : Nat) :
    bitR (((L.set a qr).set r qa).map Rb.zs) j x = bitR (L.map Rb.zs) (sw a r j) x := by
  have hal := (List.getElem?_eq_some_iff.1 ha).1
  have hrl := (List.getElem?_eq_some_iff.1 hr).1
  rw [List.map_set, List.map_set, bitR_put _ _ _ (by simpa using hrl), bitR_put _ _ _ (by simpa using hal)]
  unfold sw
  by_cases e1 : j = r
  · rw [if_pos e1]
    by_cases e2 : j = a
    · rw [if_pos e2, bitR_at hr]
      have : qa = qr := by
        have h1 := ha
        rw [← e2, e1, hr] at h1
        exact (Option.some.inj h1).symm
      rw [this]
    · rw [if_neg e2, if_pos e1, bitR_at ha]
  · rw [if_neg e1]
    by_cases e2 : j = a
    · rw [if_pos e2, if_pos e2, bitR_at hr]
    · rw [if_neg e2, if_neg e2, if_neg e1]
/-- A row to which another was added. -/
theorem bitR_add {L : List Rb} {i r M : Nat} {qi qa n : Rb} (hi : L[i]? = some qi) (hr : L[r]? = some qa) (h1 : qi.zs.length = M) (h2 : qa.zs.length = M)
    (hn : n.zs = (List.range M).map (fun x => qi.zs.getD x false != qa.zs.getD x false)) (j x : Nat) :
    bitR ((L.set i n).map Rb.zs) j x = if j = i then xor (bitR (L.map Rb.zs) i x) (bitR (L.map Rb.zs) r x) else bitR (L.map Rb.zs) j x := by
  have hil := (List.getElem?_eq_some_iff.1 hi).1
  rw [List.map_set, bitR_put _ _ _ (by simpa using hil)]
  by_cases e : j = i
  · rw [if_pos e, if_pos e, bitR_at hi, bitR_at hr, hn]
    by_cases hx : x < M
    · simp only [List.getD, List.getElem?_map, List.getElem?_range hx, Option.map_some, Option.getD_some]
    · have e1 : qi.zs.getD x false = false := by simp [List.getD, List.getElem?_eq_none (show qi.zs.length ≤ x by omega)]
      have e2 : qa.zs.getD x false = false := by simp [List.getD, List.getElem?_eq_none (show qa.zs.length ≤ x by omega)]
      rw [e1, e2]
      have e3 : (List.range M)[x]? = none := List.getElem?_eq_none (by simp; omega)
      simp [List.getD, e3]
  · rw [if_neg e, if_neg e]
end Go.Proofs.YtgfkaldndaepfaaDoor

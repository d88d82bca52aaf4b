import Derived.Test.YtlckamnadddlmaaGreatDoorPmW
/- Rows of rows of numbers, told by a function of two places; the number of a text of bits. No condition. -/
namespace Go.Proofs.YtlckamnadddlmaaGreatDoor
open Go.RowKit
set_option linter.unusedVariables false

theorem numL_take {l : List UInt8} {k : Nat} (hk : k < l.length) : numL (l.take (k + 1)) 0 = 2 * numL (l.take k) 0 + (if l[k] = 49 then 1 else 0) := by
  rw [List.take_succ_eq_append_getElem hk, numL_snoc]
/-- A row told by a function. -/
def fnR (n1 : Nat) (f : Nat → Int) : List Int := (List.range n1).map f
theorem fnR_len (n1 : Nat) (f : Nat → Int) : (fnR n1 f).length = n1 := by simp [fnR]
theorem fnR_at {n1 v : Nat} {f : Nat → Int} (h : v < n1) : (fnR n1 f).getD v 0 = f v := by simp [fnR, List.getD, h]
theorem fnR_zero (n1 : Nat) : fnR n1 (fun _ => 0) = List.replicate n1 0 := by
  apply List.ext_getElem?
  intro v
  by_cases hv : v < n1
  · simp [fnR, hv]
  · rw [List.getElem?_eq_none (by rw [fnR_len]; omega), List.getElem?_eq_none (by simp; omega)]
theorem fnR_set {n1 v : Nat} (f : Nat → Int) (x : Int) : (fnR n1 f).set v x = fnR n1 (fun u => if u = v then x else f u) := by
  apply List.ext_getElem?
  intro u
  by_cases hu : u < n1
  · rw [List.getElem?_set, fnR_len]
    by_cases h : v = u
    · subst h
      simp [fnR, hu]
    · rw [if_neg h]
      simp [fnR, hu, Ne.symm h]
  · rw [List.getElem?_eq_none (by rw [List.length_set, fnR_len]; omega), List.getElem?_eq_none (by rw [fnR_len]; omega)]
/-- Rows of rows: the blocks of the rows gs, the block g of the rows' slices; rows from m on are not made yet. -/
def mtO (g sz n1 : Nat) (gs : List Nat) (M : Nat → Nat → Int) : List (Nat × (Obj → Prop)) :=
  (g, rowO 26 sz (gs.map (fun x => Value.slice (some ⟨x, 0, none⟩) n1 n1) ++ List.replicate (sz - gs.length) (.slice none 0 0))) :: (List.range gs.length).map fun k => (gs.getD k 0, rowO 2 n1 ((fnR n1 (M k)).map (Value.int .i64)))
theorem mtO_len (g sz n1 : Nat) (gs : List Nat) (M : Nat → Nat → Int) : (mtO g sz n1 gs M).length = gs.length + 1 := by simp [mtO]
theorem mtO_zero (g sz n1 : Nat) (gs : List Nat) (M : Nat → Nat → Int) : (mtO g sz n1 gs M)[0]? = some (g, rowO 26 sz (gs.map (fun x => Value.slice (some ⟨x, 0, none⟩) n1 n1) ++ List.replicate (sz - gs.length) (.slice none 0 0))) := rfl
theorem mtO_row {g sz n1 k : Nat} {gs : List Nat} {M : Nat → Nat → Int} (h : k < gs.length) : (mtO g sz n1 gs M)[k + 1]? = some (gs.getD k 0, rowO 2 n1 ((fnR n1 (M k)).map (Value.int .i64))) := by
  simp [mtO, h]
theorem mtO_set {g sz n1 k v : Nat} {gs : List Nat} {M : Nat → Nat → Int} (x : Int) (h : k < gs.length) :
    (mtO g sz n1 gs M).set (k + 1) (gs.getD k 0, rowO 2 n1 (((fnR n1 (M k)).set v x).map (Value.int .i64))) = mtO g sz n1 gs (fun k' v' => if k' = k ∧ v' = v then x else M k' v') := by
  unfold mtO
  rw [List.set_cons_succ]
  congr 1
  apply List.ext_getElem?
  intro i
  by_cases hi : i < gs.length
  · rw [List.getElem?_set]
    by_cases e : k = i
    · subst e
      rw [if_pos rfl, if_pos (by simpa using hi)]
      simp only [List.getElem?_map, List.getElem?_range hi, Option.map_some]
      rw [fnR_set]
      congr 6
      simp
    · rw [if_neg e]
      simp only [List.getElem?_map, List.getElem?_range hi, Option.map_some]
      congr 6
      funext u
      rw [if_neg (fun h => e h.1.symm)]
  · rw [List.getElem?_eq_none (by simp; omega), List.getElem?_eq_none (by simp; omega)]
end Go.Proofs.YtlckamnadddlmaaGreatDoor
/- Rows of rows: made row by row, written at one place. No condition. -/
namespace Go.Proofs.YtlckamnadddlmaaGreatDoor
open Go.RowKit
set_option linter.unusedVariables false

/-- What a call owns, and the memory from before as it was. -/
def OwM (w0 w : World) (l : List (Nat × (Obj → Prop))) : Prop := Owns w w0.heap.size l ∧ Below w0.heap.size w0 w
theorem OwM.ret {w0 w w' : World} {l : List (Nat × (Obj → Prop))} (h : OwM w0 w l) (hb : Below w.heap.size w w') : OwM w0 w' l := ⟨h.1.below hb, bthen h.2 hb⟩
theorem OwM.sub {w0 w : World} {l l' : List (Nat × (Obj → Prop))} (h : OwM w0 w l) (hs : l'.Sublist l) : OwM w0 w l' := ⟨h.1.sub hs, h.2⟩
theorem OwM.drewN {w0 w : World} {l : List (Nat × (Obj → Prop))} (h : OwM w0 w l) (q : Nat) : OwM w0 (w.drewN q) l := h.ret (drewN_below _ _)
/-- A row of slices, made and not yet filled. -/
theorem mt_start {w0 w w1 : World} {g sz n1 : Nat} {M : Nat → Nat → Int} {R : List (Nat × (Obj → Prop))} (h : OwM w0 w R)
    (hown : w1.ownsRow w.heap.size 26 1 (.slice (some ⟨g, 0, none⟩) sz sz) sz (List.replicate sz (.slice none 0 0))) (hg : w.grownBy w1 none) : OwM w0 w1 (mtO g sz n1 [] M ++ R) := by
  have hb : Below w.heap.size w w1 := (Below.refl _ _).grown hg (Nat.le_refl _) (by simp)
  exact ⟨h.1.join hb h.2.size (Owns.ofRow hown), bthen h.2 hb⟩
theorem row_fill {sz n1 x : Nat} {gs : List Nat} (h : gs.length < sz) :
    (gs.map (fun x => Value.slice (some ⟨x, 0, none⟩) n1 n1) ++ List.replicate (sz - gs.length) (Value.slice none 0 0)).set gs.length (.slice (some ⟨x, 0, none⟩) n1 n1) = (gs ++ [x]).map (fun x => Value.slice (some ⟨x, 0, none⟩) n1 n1) ++ List.replicate (sz - (gs ++ [x]).length) (Value.slice none 0 0) := by
  obtain ⟨d, hd⟩ : ∃ d, sz - gs.length = d + 1 := ⟨sz - gs.length - 1, by omega⟩
  rw [hd, List.replicate_succ, List.set_append_right _ _ (by simp)]
  simp only [List.length_map, Nat.sub_self, List.set_cons_zero, List.map_append, List.map_cons, List.map_nil, List.length_append, List.length_singleton, List.append_assoc, List.singleton_append]
  rw [show sz - (gs.length + 1) = d by omega]
theorem rows_fill {n1 x : Nat} {gs : List Nat} {M : Nat → Nat → Int} :
    ((List.range (gs ++ [x]).length).map fun k => ((gs ++ [x]).getD k 0, rowO 2 n1 ((fnR n1 (M k)).map (Value.int .i64)))) = ((List.range gs.length).map fun k => (gs.getD k 0, rowO 2 n1 ((fnR n1 (M k)).map (Value.int .i64)))) ++ [(x, rowO 2 n1 ((fnR n1 (M gs.length)).map (Value.int .i64)))] := by
  rw [List.length_append, List.length_singleton, List.range_succ, List.map_append]
  congr 1
  · apply List.map_congr_left
    intro k hk
    rw [List.mem_range] at hk
    simp [List.getD, List.getElem?_append_left hk]
  · simp [List.getD]
theorem mt_push {w0 w w1 : World} {g sz n1 x : Nat} {gs : List Nat} {R : List (Nat × (Obj → Prop))} (h : OwM w0 w (mtO g sz n1 gs (fun _ _ => 0) ++ R)) (hm : gs.length < sz)
    (hown : w1.ownsRow w.heap.size 2 1 (.slice (some ⟨x, 0, none⟩) n1 n1) n1 ((List.replicate n1 (0 : Int)).map (Value.int .i64))) (hg : w.grownBy w1 none) :
    OwM w0 (w1.setCell ⟨g, gs.length, none⟩ (.slice (some ⟨x, 0, none⟩) n1 n1)) (mtO g sz n1 (gs ++ [x]) (fun _ _ => 0) ++ R) := by
  have hb : Below w.heap.size w w1 := (Below.refl _ _).grown hg (Nat.le_refl _) (by simp)
  rw [← fnR_zero n1] at hown
  have h1 := h.1.join hb h.2.size (Owns.ofRow hown)
  have h2 := h1.setRow 1 (g := g) (e := 26) (cap := sz) (xs := gs.map (fun x => Value.slice (some ⟨x, 0, none⟩) n1 n1) ++ List.replicate (sz - gs.length) (.slice none 0 0)) rfl gs.length (.slice (some ⟨x, 0, none⟩) n1 n1)
  have hgl : w0.heap.size ≤ g := (h.1.lt (p := (g, _)) (List.mem_of_getElem? (i := 0) rfl)).1
  refine ⟨h2.perm ?_, (bthen h.2 hb).setCell (p := ⟨g, gs.length, none⟩) hgl _⟩
  rw [row_fill hm]
  unfold mtO
  rw [rows_fill]
  simp only [List.cons_append, List.nil_append, List.set_cons_succ, List.set_cons_zero, List.append_assoc]
  exact (List.Perm.swap _ _ _).trans (List.Perm.cons _ (List.perm_middle.symm))
/-- A row's slice as it lies in the row of rows. -/
theorem OwM.slot {w0 w : World} {g sz n1 k i0 : Nat} {gs : List Nat} {l : List (Nat × (Obj → Prop))} (h : OwM w0 w l) (hi : l[i0]? = some (g, rowO 26 sz (gs.map (fun x => Value.slice (some ⟨x, 0, none⟩) n1 n1) ++ List.replicate (sz - gs.length) (.slice none 0 0)))) (hk : k < gs.length) :
    w.cell? ⟨g, k, none⟩ = some (.slice (some ⟨gs.getD k 0, 0, none⟩) n1 n1) := by
  rw [h.1.cellAt i0 hi k (by simp; omega), List.getElem?_append_left (by simpa using hk), List.getElem?_map, List.getElem?_eq_getElem hk]
  simp [List.getD, hk]
theorem OwM.num {w0 w : World} {n1 v i0 x : Nat} {f : Nat → Int} {l : List (Nat × (Obj → Prop))} (h : OwM w0 w l) (hi : l[i0]? = some (x, rowO 2 n1 ((fnR n1 f).map (Value.int .i64)))) (hv : v < n1) :
    w.cell? ⟨x, v, none⟩ = some (.int .i64 (f v)) := by
  rw [h.1.intAt i0 hi v (by rw [fnR_len]; exact hv), fnR_at hv]
theorem OwM.setNum {w0 w : World} {n1 v i0 x : Nat} {f : Nat → Int} {l : List (Nat × (Obj → Prop))} (h : OwM w0 w l) (hi : l[i0]? = some (x, rowO 2 n1 ((fnR n1 f).map (Value.int .i64)))) (y : Int) :
    OwM w0 (w.setCell ⟨x, v, none⟩ (.int .i64 y)) (l.set i0 (x, rowO 2 n1 (((fnR n1 f).set v y).map (Value.int .i64)))) :=
  ⟨h.1.setInt i0 hi v y, h.2.setCell (p := ⟨x, v, none⟩) (h.1.lt (List.mem_of_getElem? hi)).1 _⟩
/-- The first of the rows of rows is read. -/
theorem OwM.rd {w0 w : World} {g sz n1 k v : Nat} {gs : List Nat} {M : Nat → Nat → Int} {R : List (Nat × (Obj → Prop))} (h : OwM w0 w (mtO g sz n1 gs M ++ R)) (hk : k < gs.length) (hv : v < n1) :
    w.cell? ⟨g, k, none⟩ = some (.slice (some ⟨gs.getD k 0, 0, none⟩) n1 n1) ∧ w.cell? ⟨gs.getD k 0, v, none⟩ = some (.int .i64 (M k v)) ∧ w.frozen? ⟨gs.getD k 0, v, none⟩ = false := by
  have hi : (mtO g sz n1 gs M ++ R)[k + 1]? = some (gs.getD k 0, rowO 2 n1 ((fnR n1 (M k)).map (Value.int .i64))) := by
    rw [List.getElem?_append_left (by rw [mtO_len]; omega)]
    exact mtO_row hk
  exact ⟨h.slot (i0 := 0) rfl hk, h.num hi hv, h.1.frozenAt (k + 1) hi v⟩
/-- The first of the rows of rows is written. -/
theorem OwM.put {w0 w : World} {g sz n1 k v : Nat} {gs : List Nat} {M : Nat → Nat → Int} {R : List (Nat × (Obj → Prop))} (h : OwM w0 w (mtO g sz n1 gs M ++ R)) (hk : k < gs.length) (x : Int) :
    OwM w0 (w.setCell ⟨gs.getD k 0, v, none⟩ (.int .i64 x)) (mtO g sz n1 gs (fun k' v' => if k' = k ∧ v' = v then x else M k' v') ++ R) := by
  have hi : (mtO g sz n1 gs M ++ R)[k + 1]? = some (gs.getD k 0, rowO 2 n1 ((fnR n1 (M k)).map (Value.int .i64))) := by
    rw [List.getElem?_append_left (by rw [mtO_len]; omega)]
    exact mtO_row hk
  have h1 := h.setNum (v := v) hi x
  rw [List.set_append_left _ _ (by rw [mtO_len]; omega), mtO_set x hk] at h1
  exact h1
theorem OwM.congr {w0 w : World} {g sz n1 : Nat} {gs : List Nat} {M M' : Nat → Nat → Int} {R : List (Nat × (Obj → Prop))} (h : OwM w0 w (mtO g sz n1 gs M ++ R)) (hM : ∀ k v, k < gs.length → v < n1 → M k v = M' k v) : OwM w0 w (mtO g sz n1 gs M' ++ R) := by
  have e : mtO g sz n1 gs M = mtO g sz n1 gs M' := by
    unfold mtO
    congr 1
    apply List.map_congr_left
    intro k hk
    rw [List.mem_range] at hk
    have : fnR n1 (M k) = fnR n1 (M' k) := by
      unfold fnR
      apply List.map_congr_left
      intro v hv
      rw [List.mem_range] at hv
      exact hM k v hk hv
    rw [this]
  rw [← e]; exact h
/-- A place of the row of rows that is not filled yet. -/
theorem OwM.gap {w0 w : World} {g sz n1 : Nat} {gs : List Nat} {M : Nat → Nat → Int} {R : List (Nat × (Obj → Prop))} (h : OwM w0 w (mtO g sz n1 gs M ++ R)) (hm : gs.length < sz) :
    w.cell? ⟨g, gs.length, none⟩ = some (.slice none 0 0) ∧ w.frozen? ⟨g, gs.length, none⟩ = false := by
  refine ⟨?_, h.1.frozenAt 0 rfl _⟩
  rw [h.1.cellAt 0 rfl gs.length (by simp; omega), List.getElem?_append_right (by simp), List.length_map, Nat.sub_self, List.getElem?_replicate, if_pos (by omega)]
end Go.Proofs.YtlckamnadddlmaaGreatDoor

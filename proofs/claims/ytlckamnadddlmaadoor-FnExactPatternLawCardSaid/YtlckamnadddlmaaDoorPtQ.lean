import Derived.Test.YtlckamnadddlmaaDoorPtS
/- A row of counts beside the rows of rows. No condition. -/
namespace Go.Proofs.YtlckamnadddlmaaDoor
open Go.RowKit
set_option linter.unusedVariables false

def cnO (c n1 : Nat) (F : Nat → Int) : Nat × (Obj → Prop) := (c, rowO 2 n1 ((fnR n1 F).map (Value.int .i64)))
theorem cn_start {w0 w w1 : World} {c n1 : Nat} {R : List (Nat × (Obj → Prop))} (h : OwM w0 w R)
    (hown : w1.ownsRow w.heap.size 2 1 (.slice (some ⟨c, 0, none⟩) n1 n1) n1 ((List.replicate n1 (0 : Int)).map (Value.int .i64))) (hg : w.grownBy w1 none) : OwM w0 w1 (cnO c n1 (fun _ => 0) :: R) := by
  have hb : Below w.heap.size w w1 := (Below.refl _ _).grown hg (Nat.le_refl _) (by simp)
  rw [← fnR_zero n1] at hown
  exact ⟨h.1.join hb h.2.size (Owns.ofRow hown), bthen h.2 hb⟩
theorem OwM.cnRd {w0 w : World} {c n1 v : Nat} {F : Nat → Int} {R : List (Nat × (Obj → Prop))} (h : OwM w0 w (cnO c n1 F :: R)) (hv : v < n1) :
    w.cell? ⟨c, v, none⟩ = some (.int .i64 (F v)) ∧ w.frozen? ⟨c, v, none⟩ = false := ⟨h.num (i0 := 0) rfl hv, h.1.frozenAt 0 rfl v⟩
theorem OwM.cnPut {w0 w : World} {c n1 : Nat} {F : Nat → Int} {R : List (Nat × (Obj → Prop))} (h : OwM w0 w (cnO c n1 F :: R)) (v : Nat) (x : Int) :
    OwM w0 (w.setCell ⟨c, v, none⟩ (.int .i64 x)) (cnO c n1 (fun u => if u = v then x else F u) :: R) := by
  have h1 := h.setNum (i0 := 0) (v := v) rfl x
  rw [fnR_set] at h1
  exact h1
theorem OwM.cnCongr {w0 w : World} {c n1 : Nat} {F F' : Nat → Int} {R : List (Nat × (Obj → Prop))} (h : OwM w0 w (cnO c n1 F :: R)) (hF : ∀ v, v < n1 → F v = F' v) : OwM w0 w (cnO c n1 F' :: R) := by
  have e : fnR n1 F = fnR n1 F' := by
    unfold fnR
    apply List.map_congr_left
    intro v hv
    rw [List.mem_range] at hv
    exact hF v hv
  unfold cnO at h ⊢
  rw [← e]; exact h
theorem OwM.cnInts {w0 w : World} {c n1 : Nat} {F : Nat → Int} {R : List (Nat × (Obj → Prop))} (h : OwM w0 w (cnO c n1 F :: R)) : IsInts w (some ⟨c, 0, none⟩) n1 (fnR n1 F) := by
  have h1 := (h.1.rowAt 0 rfl).1
  rw [List.length_map, fnR_len] at h1
  exact IsInts.of_own h1
/-- Two counts side by side. -/
theorem lfC_put {L : List (Nat × Nat)} (k v u : Nat) : (if u = v then ((markN L (lfC k v) (fun s => s.2 == v) : Nat) : Int) + ((ctR L (k, v) : Nat) : Int) else ((markN L (lfC k v) (fun s => s.2 == u) : Nat) : Int)) = ((markN L (lfC k (v + 1)) (fun s => s.2 == u) : Nat) : Int) := by
  rw [lfC_step (L := L) k v u]
  by_cases e : u = v
  · subst e
    rw [if_pos rfl, if_pos (by simp)]; exact (Int.natCast_add _ _).symm
  · rw [if_neg e, if_neg (by simp; exact fun h => e h.symm), Nat.add_zero]
end Go.Proofs.YtlckamnadddlmaaDoor

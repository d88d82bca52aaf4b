import Derived.Test.YtddmglgogjaajaaSrc
/- Slices of slices of numbers: what is owned, and the laws' helpers on them. -/
namespace Go.Proofs.Ytddmglgogjaajaa
open Go.RowKit
set_option linter.unusedVariables false

theorem OwnAt.join {w0 w w' : World} {l l1 : List (Nat × (Obj → Prop))} (h : OwnAt w0 w l) (hb : Below w.heap.size w w') (h1 : Owns w' w.heap.size l1) : OwnAt w0 w' (l1 ++ l) := ⟨h.1.join hb h.2.size h1, bthen h.2 hb⟩
theorem OwnAt.perm {w0 w : World} {l l' : List (Nat × (Obj → Prop))} (h : OwnAt w0 w l) (hp : l.Perm l') : OwnAt w0 w l' := ⟨h.1.perm hp, h.2⟩
theorem OwnAt.arg {w0 w : World} {l : List (Nat × (Obj → Prop))} (h : OwnAt w0 w l) {a len zs} (hx : IsInts w0 a len zs) : IsInts w a len zs := hx.below h.2

/-- A flat row as a block, and as a slice. -/
structure Rw where
  g : Nat
  c : Nat
  zs : List Int
def Rw.v (r : Rw) : Value := .slice (some ⟨r.g, 0, none⟩) r.zs.length r.c
def Rw.o (r : Rw) : Nat × (Obj → Prop) := (r.g, rowO 2 r.c (r.zs.map (Value.int .i64)))
theorem Owns.isInts {w : World} {B : Nat} {l : List (Nat × (Obj → Prop))} (h : Owns w B l) (i : Nat) {r : Rw} (hi : l[i]? = some r.o) : IsInts w (some ⟨r.g, 0, none⟩) r.zs.length r.zs := by
  have := (h.rowAt i hi).1
  rw [List.length_map] at this
  exact IsInts.of_own this

theorem copy_own (a : Option Addr) (len cap : Nat) (zs : List Int) (w0 w : World) (l : List (Nat × (Obj → Prop))) (h : OwnAt w0 w l) (hb : len ≤ 1048576) (hx : IsInts w0 a len zs) :
    Calls Try.prog 20 #[.slice a len cap] w fun e w' => ∃ r : Rw, e = .returned (.slice (some ⟨r.g, 0, none⟩) len r.c) ∧ r.zs = zs ∧ OwnAt w0 w' (r.o :: l) := by
  obtain rfl := hx.1
  refine (toInt64S_own a _ cap zs w hb (h.arg hx)).mono ?_
  rintro e w1 ⟨g, c, rfl, hown, hbw⟩
  exact ⟨⟨g, c, zs⟩, rfl, rfl, h.join hbw (Owns.ofRow hown)⟩
theorem eq_own (i j : Nat) (r r' : Rw) (n : Nat) (w0 w : World) (l : List (Nat × (Obj → Prop))) (h : OwnAt w0 w l) (hn : r.zs.length = n) (hn2 : n < 4611686018427387904) (hz : r.zs = r'.zs) (hi : l[i]? = some r.o) (hj : l[j]? = some r'.o) :
    Calls Try.prog 22 #[.slice (some ⟨r.g, 0, none⟩) n r.c, .slice (some ⟨r'.g, 0, none⟩) n r'.c] w fun e w' => e = .returned (.bool true) ∧ OwnAt w0 w' l := by
  have h1 := h.1.isInts i hi
  have h2 := h.1.isInts j hj
  rw [← hz] at h2
  rw [hn] at h1 h2
  refine (eqInt64S_any _ _ n n _ _ r.zs r.zs w hn2 h1 h2).mono ?_
  rintro e w' ⟨rfl, hb⟩
  exact ⟨by simp, h.ret hb⟩
theorem mark_own (i : Nat) (r : Rw) (z : Int) (w0 w : World) (l : List (Nat × (Obj → Prop))) (h : OwnAt w0 w l) (hn : r.zs.length ≤ 1048576) (hz0 : 0 ≤ z) (hz : z ≤ 1152921504606846976) (hi : l[i]? = some r.o) :
    Calls Try.prog 73 #[.slice (some ⟨r.g, 0, none⟩) r.zs.length r.c, .int .i64 z] w fun e w' => e = .returned (.int .i64 (z + r.zs.length)) ∧ OwnAt w0 w' (l.set i (Rw.o ⟨r.g, r.c, marks z.toNat r.zs.length⟩)) := by
  obtain ⟨k0, rfl⟩ := Int.eq_ofNat_of_zero_le hz0
  have ho := (h.1.rowAt i hi).1
  rw [List.length_map] at ho
  refine (markInt64S_any w0.heap.size _ _ _ r.zs k0 w hn (by omega) ho).mono ?_
  rintro e w' ⟨rfl, hown, hg⟩
  refine ⟨by simp, ?_, below_grown h.2 ho hg h.2.size⟩
  obtain ⟨hB, o, hho, hφ⟩ := (Owns.ofRow hown).holds _ List.mem_cons_self
  exact h.1.upd hi hg (Or.inl rfl) hB hho hφ
theorem held_own (i : Nat) (r : Rw) (z : Int) (w0 w : World) (l : List (Nat × (Obj → Prop))) (h : OwnAt w0 w l) (hn : r.zs.length ≤ 1048576) (hz0 : 0 ≤ z) (hz : z ≤ 1152921504606846976) (hm : r.zs = marks z.toNat r.zs.length) (hi : l[i]? = some r.o) :
    Calls Try.prog 75 #[.slice (some ⟨r.g, 0, none⟩) r.zs.length r.c, .int .i64 z] w fun e w' => e = .returned (.int .i64 (z + r.zs.length)) ∧ OwnAt w0 w' l := by
  obtain ⟨k0, rfl⟩ := Int.eq_ofNat_of_zero_le hz0
  refine (heldInt64S_any _ _ _ _ k0 w hn (by omega) (by simpa using hm) (h.1.isInts i hi)).mono ?_
  rintro e w' ⟨rfl, hb⟩
  exact ⟨by simp, h.ret hb⟩
theorem Try.infoR : (Try.prog.info? 30).map (fun i => (i.zero, i.size, i.bytes)) = some (some (.slice none 0 0), 1, 24) := by kernel_rfl
/-- A slice of slices: the outer row and the inner ones. -/
def llO (go co : Nat) (rs : List Rw) : List (Nat × (Obj → Prop)) := (go, rowO 30 co (rs.map Rw.v)) :: rs.map Rw.o
theorem rw_at (rs : List Rw) (d : Rw) (k : Nat) (h : k < rs.length) : rs[k]? = some (rs.getD k d) := by
  rw [List.getElem?_eq_getElem h]; simp [List.getD, h]
theorem llCell {w : World} {B go co : Nat} {rs : List Rw} {post : List (Nat × (Obj → Prop))} (h : Owns w B (llO go co rs ++ post)) (k : Nat) {r : Rw} (hk : rs[k]? = some r) : w.cell? ⟨go, k, none⟩ = some (.slice (some ⟨r.g, 0, none⟩) r.zs.length r.c) := by
  have hl := (List.getElem?_eq_some_iff.1 hk).1
  rw [h.cellAt 0 rfl k (by simpa using hl)]
  simp [hk, Rw.v]
theorem llRow {go co : Nat} {rs : List Rw} {post : List (Nat × (Obj → Prop))} (k : Nat) {r : Rw} (hk : rs[k]? = some r) : (llO go co rs ++ post)[k + 1]? = some r.o := by
  have hl := (List.getElem?_eq_some_iff.1 hk).1
  rw [List.getElem?_append_left (by simp [llO]; omega)]
  simp [llO, hk]

end Go.Proofs.Ytddmglgogjaajaa

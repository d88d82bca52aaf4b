import Derived.Test.YtlckamnadddlmaaGreatDoorFrS
/- Laws as values: the values and the chances, each a slice of its own; the laws' helpers on them. -/
namespace Go.Proofs.YtlckamnadddlmaaGreatDoor
open Go.RowKit
set_option linter.unusedVariables false

/-- V and C are the slices of a law with the values vs and the chances fs, two numbers a chance; both are owned. -/
structure LawAt (w : World) (B : Nat) (V C : Value) (vs fs : List Int) : Prop where
  val : w.ownsRow B 2 1 V vs.length (vs.map (Value.int .i64))
  cha : w.ownsRow B 44 2 C vs.length (fs.map (Value.int .i64))
  dis : Dis V C
theorem LawAt.below {w w' : World} {B : Nat} {V C : Value} {vs fs : List Int} (h : LawAt w B V C vs fs) (hb : Below w.heap.size w w') : LawAt w' B V C vs fs := ⟨own_below h.val hb, own_below h.cha hb, h.dis⟩
theorem LawAt.mono {w : World} {B B' : Nat} {V C : Value} {vs fs : List Int} (h : LawAt w B V C vs fs) (hB : B' ≤ B) : LawAt w B' V C vs fs := ⟨own_mono h.val hB, own_mono h.cha hB, h.dis⟩
theorem own_shape {w : World} {B E sz : Nat} {v : Value} {n : Nat} {xs : List Value} (h : w.ownsRow B E sz v n xs) : ∃ a c, v = .slice a n c := by
  rcases h.2 with ⟨e, h0⟩ | ⟨g, c, cur, e, _⟩
  · subst h0; exact ⟨_, _, e⟩
  · exact ⟨_, _, e⟩
/-- Nothing has changed but the blocks r1 and r2 and what is new. -/
structure Kept2 (w w' : World) (r1 r2 : Option Nat) : Prop where
  os : w'.os = w.os
  tape : w'.tape = w.tape
  output : w'.output = w.output
  size : w.heap.size ≤ w'.heap.size
  block : ∀ b, b < w.heap.size → some b ≠ r1 → some b ≠ r2 → w'.heap[b]? = w.heap[b]?
theorem Kept2.of {a b c : World} {r1 r2 : Option Nat} (h : a.grownBy b r1) (k : b.grownBy c r2) : Kept2 a c r1 r2 :=
  ⟨k.os.trans h.os, k.tape.trans h.tape, k.output.trans h.output, Nat.le_trans h.size k.size, fun i hi h1 h2 => (k.block i (Nat.lt_of_lt_of_le hi h.size) h2).trans (h.block i hi h1)⟩
theorem Kept2.own {w w' : World} {r1 r2 : Option Nat} {B E sz : Nat} {v : Value} {n : Nat} {xs : List Value} (hk : Kept2 w w' r1 r2) (h : w.ownsRow B E sz v n xs) (h1 : v.ownBlock = none ∨ v.ownBlock ≠ r1) (h2 : v.ownBlock = none ∨ v.ownBlock ≠ r2) : w'.ownsRow B E sz v n xs := by
  refine ⟨h.1, ?_⟩
  rcases h.2 with hn | ⟨g, cap, cur, rfl, hb, hgg, rest⟩
  · exact .inl hn
  · refine .inr ⟨g, cap, cur, rfl, hb, ?_, rest⟩
    simp only [Value.ownBlock, reduceCtorEq, false_or] at h1 h2
    rw [hk.block g (Array.getElem?_eq_some_iff.1 hgg).1 h1 h2]
    exact hgg
theorem Kept2.below {w0 w w' : World} {B : Nat} {r1 r2 : Option Nat} (h : Below B w0 w) (hk : Kept2 w w' r1 r2) (h1 : ∀ b, r1 = some b → B ≤ b) (h2 : ∀ b, r2 = some b → B ≤ b) (hB : B ≤ w.heap.size) : Below B w0 w' :=
  ⟨hk.os.trans h.os, hk.tape.trans h.tape, hk.output.trans h.output, Nat.le_trans h.size hk.size, fun b hb => (hk.block b (by omega) (fun e => by have := h1 b e.symm; omega) (fun e => by have := h2 b e.symm; omega)).trans (h.block b hb)⟩
theorem LawAt.kept {w w' : World} {B : Nat} {V C : Value} {vs fs : List Int} {r1 r2 : Option Nat} (h : LawAt w B V C vs fs) (hk : Kept2 w w' r1 r2) (h1 : ∀ b, r1 = some b → V.ownBlock ≠ some b ∧ C.ownBlock ≠ some b) (h2 : ∀ b, r2 = some b → V.ownBlock ≠ some b ∧ C.ownBlock ≠ some b) : LawAt w' B V C vs fs := by
  have aux : ∀ (v : Value) (r : Option Nat), (∀ b, r = some b → v.ownBlock ≠ some b) → v.ownBlock = none ∨ v.ownBlock ≠ r := fun v r hh => by
    cases r with
    | none => cases hv : v.ownBlock with
      | none => exact Or.inl rfl
      | some b => exact Or.inr (by simp)
    | some b => exact Or.inr (hh b rfl)
  exact ⟨hk.own h.val (aux V r1 fun b e => (h1 b e).1) (aux V r2 fun b e => (h2 b e).1), hk.own h.cha (aux C r1 fun b e => (h1 b e).2) (aux C r2 fun b e => (h2 b e).2), h.dis⟩
/-- A box that holds a law. -/
def LBox (w : World) (b : Nat) (V C : Value) : Prop := w.heap[b]? = some (.cells #[V, C] 29 (0, 0))
theorem LBox.below {w w' : World} {b : Nat} {V C : Value} (h : LBox w b V C) (hb : Below w.heap.size w w') : LBox w' b V C := (hb.block b (lt_of_heap h)).trans h
theorem LBox.kept {w w' : World} {b : Nat} {V C : Value} {r1 r2 : Option Nat} (h : LBox w b V C) (hk : Kept2 w w' r1 r2) (h1 : r1 ≠ some b) (h2 : r2 ≠ some b) : LBox w' b V C := (hk.block b (lt_of_heap h) (fun e => h1 e.symm) (fun e => h2 e.symm)).trans h
theorem LBox.cells {w : World} {b : Nat} {V C : Value} (h : LBox w b V C) : w.cell? ⟨b, 0, none⟩ = some V ∧ w.cell? ⟨b, 1, none⟩ = some C := by
  unfold LBox at h
  exact ⟨by simp [World.cell?, h], by simp [World.cell?, h]⟩
end Go.Proofs.YtlckamnadddlmaaGreatDoor
/- The walk of a law on a function that answers with a law: given what both sides answer. -/
namespace Go.Proofs.YtlckamnadddlmaaGreatDoor
open Go.RowKit
set_option linter.unusedVariables false

def RetLaw (w : World) (ok : Bool) (vs fs : List Int) (e : Ending) (w' : World) : Prop := ∃ V C, e = .returned (.tuple #[.agg #[V, C], .bool ok]) ∧ LawAt w' w.heap.size V C vs fs ∧ Below w.heap.size w w'
/-- A law was answered and laid in a box. -/
def LS1 (w w' : World) (b : Nat) (V0 C0 : Value) (vs fs : List Int) : Prop := LBox w' b V0 C0 ∧ LawAt w' w.heap.size V0 C0 vs fs ∧ Below w.heap.size w w' ∧ w.heap.size ≤ b ∧ V0.ownBlock ≠ some b ∧ C0.ownBlock ≠ some b
theorem own_ne {w : World} {B E sz : Nat} {v : Value} {n : Nat} {xs : List Value} (h : w.ownsRow B E sz v n xs) : v.ownBlock ≠ some w.heap.size := fun e => by
  have := (h.lt _ e).2
  omega
theorem lawSt_one {w w1 : World} {V0 C0 : Value} {vs fs : List Int} (h : LawAt w1 w.heap.size V0 C0 vs fs) (hb : Below w.heap.size w w1) : LS1 w (w1.alloc (.cells #[V0, C0] 29)) w1.heap.size V0 C0 vs fs :=
  ⟨heap_at_new _ _, h.below ((Below.refl _ _).alloc (Nat.le_refl _) _), bthen hb ((Below.refl _ _).alloc (Nat.le_refl _) _), hb.size, own_ne h.val, own_ne h.cha⟩
/-- Two laws, each in a box; the second one may be written. -/
structure LS2 (w w' : World) (b0 b1 : Nat) (V0 C0 V1 C1 : Value) (vs fs us gs : List Int) : Prop where
  x0 : LBox w' b0 V0 C0
  x1 : LBox w' b1 V1 C1
  l0 : LawAt w' w.heap.size V0 C0 vs fs
  l1 : LawAt w' w.heap.size V1 C1 us gs
  bel : Below w.heap.size w w'
  nv : V1.ownBlock ≠ some b0 ∧ V1.ownBlock ≠ some b1
  nc : C1.ownBlock ≠ some b0 ∧ C1.ownBlock ≠ some b1
  dv : ∀ b, V1.ownBlock = some b → V0.ownBlock ≠ some b ∧ C0.ownBlock ≠ some b
  dc : ∀ b, C1.ownBlock = some b → V0.ownBlock ≠ some b ∧ C0.ownBlock ≠ some b
theorem lawSt_two {w wA w2 : World} {b0 : Nat} {V0 C0 V1 C1 : Value} {vs fs us gs : List Int} (h : LS1 w wA b0 V0 C0 vs fs) (hl : LawAt w2 wA.heap.size V1 C1 us gs) (hb : Below wA.heap.size wA w2) :
    LS2 w (w2.alloc (.cells #[V1, C1] 29)) b0 w2.heap.size V0 C0 V1 C1 vs fs us gs := by
  obtain ⟨h1, h2, h3, h4, h5, h6⟩ := h
  have hA : Below w2.heap.size w2 (w2.alloc (.cells #[V1, C1] 29)) := (Below.refl _ _).alloc (Nat.le_refl _) _
  have hb0 := lt_of_heap h1
  have hge : ∀ (v : Value) (E sz n : Nat) (xs : List Value), w2.ownsRow wA.heap.size E sz v n xs → v.ownBlock ≠ some b0 := fun v E sz n xs ho e => by
    have := (ho.lt _ e).1
    omega
  have hold : ∀ (v v' : Value) (E sz n E' sz' n' B : Nat) (xs ys : List Value), w2.ownsRow wA.heap.size E sz v n xs → wA.ownsRow B E' sz' v' n' ys → ∀ b, v.ownBlock = some b → v'.ownBlock ≠ some b := fun v v' E sz n E' sz' n' B xs ys ho ho' b e e' => by
    have h1 := (ho.lt _ e).1
    have h2 := (ho'.lt _ e').2
    omega
  exact ⟨(h1.below hb).below hA, heap_at_new _ _, (h2.below hb).below hA, (hl.below hA).mono h3.size, bthen (bthen h3 hb) hA,
    ⟨hge _ _ _ _ _ hl.val, own_ne hl.val⟩, ⟨hge _ _ _ _ _ hl.cha, own_ne hl.cha⟩,
    fun b e => ⟨hold _ _ _ _ _ _ _ _ _ _ _ hl.val h2.val b e, hold _ _ _ _ _ _ _ _ _ _ _ hl.val h2.cha b e⟩,
    fun b e => ⟨hold _ _ _ _ _ _ _ _ _ _ _ hl.cha h2.val b e, hold _ _ _ _ _ _ _ _ _ _ _ hl.cha h2.cha b e⟩⟩
theorem LS2.below {w w' w'' : World} {b0 b1 : Nat} {V0 C0 V1 C1 : Value} {vs fs us gs : List Int} (h : LS2 w w' b0 b1 V0 C0 V1 C1 vs fs us gs) (hb : Below w'.heap.size w' w'') : LS2 w w'' b0 b1 V0 C0 V1 C1 vs fs us gs :=
  ⟨h.x0.below hb, h.x1.below hb, h.l0.below hb, h.l1.below hb, bthen h.bel hb, h.nv, h.nc, h.dv, h.dc⟩
theorem LS2.mark {w w' w'' : World} {b0 b1 : Nat} {V0 C0 V1 C1 : Value} {vs fs us gs us' gs' : List Int} (h : LS2 w w' b0 b1 V0 C0 V1 C1 vs fs us gs) (hl : LawAt w'' w.heap.size V1 C1 us' gs') (hk : Kept2 w' w'' V1.ownBlock C1.ownBlock) : LS2 w w'' b0 b1 V0 C0 V1 C1 vs fs us' gs' :=
  ⟨h.x0.kept hk h.nv.1 h.nc.1, h.x1.kept hk h.nv.2 h.nc.2, h.l0.kept hk h.dv h.dc, hl, hk.below h.bel (fun b e => (h.l1.val.lt _ e).1) (fun b e => (h.l1.cha.lt _ e).1) h.bel.size, h.nv, h.nc, h.dv, h.dc⟩
theorem LS2.cells {w w' : World} {b0 b1 : Nat} {V0 C0 V1 C1 : Value} {vs fs us gs : List Int} (h : LS2 w w' b0 b1 V0 C0 V1 C1 vs fs us gs) : w'.cell? ⟨b0, 0, none⟩ = some V0 ∧ w'.cell? ⟨b0, 1, none⟩ = some C0 ∧ w'.cell? ⟨b1, 0, none⟩ = some V1 ∧ w'.cell? ⟨b1, 1, none⟩ = some C1 :=
  ⟨h.x0.cells.1, h.x0.cells.2, h.x1.cells.1, h.x1.cells.2⟩
end Go.Proofs.YtlckamnadddlmaaGreatDoor

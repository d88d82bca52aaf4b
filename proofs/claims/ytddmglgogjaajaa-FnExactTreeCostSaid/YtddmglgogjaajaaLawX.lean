import Derived.Test.YtddmglgogjaajaaLawV
/- The walk of a law on a function that answers with a law: given what both sides answer. -/
namespace Go.Proofs.Ytddmglgogjaajaa
open Go.RowKit
set_option linter.unusedVariables false

def RetLaw (w : World) (ok : Bool) (vs fs : List Int) (e : Ending) (w' : World) : Prop := ∃ V C, e = .returned (.tuple #[.agg #[V, C], .bool ok]) ∧ LawAt w' w.heap.size V C vs fs ∧ Below w.heap.size w w'
/-- A law was answered and laid in a box. -/
def LS1 (w w' : World) (b : Nat) (V0 C0 : Value) (vs fs : List Int) : Prop := LBox w' b V0 C0 ∧ LawAt w' w.heap.size V0 C0 vs fs ∧ Below w.heap.size w w' ∧ w.heap.size ≤ b ∧ V0.ownBlock ≠ some b ∧ C0.ownBlock ≠ some b
theorem own_ne {w : World} {B E sz : Nat} {v : Value} {n : Nat} {xs : List Value} (h : w.ownsRow B E sz v n xs) : v.ownBlock ≠ some w.heap.size := fun e => by
  have := (h.lt _ e).2
  omega
theorem lawSt_one {w w1 : World} {V0 C0 : Value} {vs fs : List Int} (h : LawAt w1 w.heap.size V0 C0 vs fs) (hb : Below w.heap.size w w1) : LS1 w (w1.alloc (.cells #[V0, C0] 39)) w1.heap.size V0 C0 vs fs :=
  ⟨heap_at_new _ _, h.below ((Below.refl _ _).alloc (Nat.le_refl _) _), bthen hb ((Below.refl _ _).alloc (Nat.le_refl _) _), hb.size, own_ne h.val, own_ne h.cha⟩
/-- Two laws, each in a box; the second one may be written. -/
structure LS2 (w w' : World) (b0 b1 : Nat) (V0 C0 V1 C1 : Value) (vs fs us gs : List Int) : Prop where
  x0 : LBox w' b0 V0 C0
  x1 : LBox w' b1 V1 C1
  l0 : LawAt w' w.heap.size V0 C0 vs fs
  l1 : LawAt w' w.heap.size V1 C1 us gs
  bel : Below w.heap.size w w'
  nv : V1.ownBlock ≠ some b0 ∧ V1.ownBlock ≠ some b1
  nc : C1.ownBlock ≠ some b0 ∧ C1.ownBlock ≠ some b1
  dv : ∀ b, V1.ownBlock = some b → V0.ownBlock ≠ some b ∧ C0.ownBlock ≠ some b
  dc : ∀ b, C1.ownBlock = some b → V0.ownBlock ≠ some b ∧ C0.ownBlock ≠ some b
theorem lawSt_two {w wA w2 : World} {b0 : Nat} {V0 C0 V1 C1 : Value} {vs fs us gs : List Int} (h : LS1 w wA b0 V0 C0 vs fs) (hl : LawAt w2 wA.heap.size V1 C1 us gs) (hb : Below wA.heap.size wA w2) :
    LS2 w (w2.alloc (.cells #[V1, C1] 39)) b0 w2.heap.size V0 C0 V1 C1 vs fs us gs := by
  obtain ⟨h1, h2, h3, h4, h5, h6⟩ := h
  have hA : Below w2.heap.size w2 (w2.alloc (.cells #[V1, C1] 39)) := (Below.refl _ _).alloc (Nat.le_refl _) _
  have hb0 := lt_of_heap h1
  have hge : ∀ (v : Value) (E sz n : Nat) (xs : List Value), w2.ownsRow wA.heap.size E sz v n xs → v.ownBlock ≠ some b0 := fun v E sz n xs ho e => by
    have := (ho.lt _ e).1
    omega
  have hold : ∀ (v v' : Value) (E sz n E' sz' n' B : Nat) (xs ys : List Value), w2.ownsRow wA.heap.size E sz v n xs → wA.ownsRow B E' sz' v' n' ys → ∀ b, v.ownBlock = some b → v'.ownBlock ≠ some b := fun v v' E sz n E' sz' n' B xs ys ho ho' b e e' => by
    have h1 := (ho.lt _ e).1
    have h2 := (ho'.lt _ e').2
    omega
  exact ⟨(h1.below hb).below hA, heap_at_new _ _, (h2.below hb).below hA, (hl.below hA).mono h3.size, bthen (bthen h3 hb) hA,
    ⟨hge _ _ _ _ _ hl.val, own_ne hl.val⟩, ⟨hge _ _ _ _ _ hl.cha, own_ne hl.cha⟩,
    fun b e => ⟨hold _ _ _ _ _ _ _ _ _ _ _ hl.val h2.val b e, hold _ _ _ _ _ _ _ _ _ _ _ hl.val h2.cha b e⟩,
    fun b e => ⟨hold _ _ _ _ _ _ _ _ _ _ _ hl.cha h2.val b e, hold _ _ _ _ _ _ _ _ _ _ _ hl.cha h2.cha b e⟩⟩
theorem LS2.below {w w' w'' : World} {b0 b1 : Nat} {V0 C0 V1 C1 : Value} {vs fs us gs : List Int} (h : LS2 w w' b0 b1 V0 C0 V1 C1 vs fs us gs) (hb : Below w'.heap.size w' w'') : LS2 w w'' b0 b1 V0 C0 V1 C1 vs fs us gs :=
  ⟨h.x0.below hb, h.x1.below hb, h.l0.below hb, h.l1.below hb, bthen h.bel hb, h.nv, h.nc, h.dv, h.dc⟩
theorem LS2.mark {w w' w'' : World} {b0 b1 : Nat} {V0 C0 V1 C1 : Value} {vs fs us gs us' gs' : List Int} (h : LS2 w w' b0 b1 V0 C0 V1 C1 vs fs us gs) (hl : LawAt w'' w.heap.size V1 C1 us' gs') (hk : Kept2 w' w'' V1.ownBlock C1.ownBlock) : LS2 w w'' b0 b1 V0 C0 V1 C1 vs fs us' gs' :=
  ⟨h.x0.kept hk h.nv.1 h.nc.1, h.x1.kept hk h.nv.2 h.nc.2, h.l0.kept hk h.dv h.dc, hl, hk.below h.bel (fun b e => (h.l1.val.lt _ e).1) (fun b e => (h.l1.cha.lt _ e).1) h.bel.size, h.nv, h.nc, h.dv, h.dc⟩
theorem LS2.cells {w w' : World} {b0 b1 : Nat} {V0 C0 V1 C1 : Value} {vs fs us gs : List Int} (h : LS2 w w' b0 b1 V0 C0 V1 C1 vs fs us gs) : w'.cell? ⟨b0, 0, none⟩ = some V0 ∧ w'.cell? ⟨b0, 1, none⟩ = some C0 ∧ w'.cell? ⟨b1, 0, none⟩ = some V1 ∧ w'.cell? ⟨b1, 1, none⟩ = some C1 :=
  ⟨h.x0.cells.1, h.x0.cells.2, h.x1.cells.1, h.x1.cells.2⟩
theorem markLaw_one (V C : Value) (B : Nat) (vs fs : List Int) (w : World) (hb : vs.length ≤ 1048576) (h : LawAt w B V C vs fs) :
    Calls Try.prog 28 #[.agg #[V, C], .int .i64 1] w fun e w' => e = .returned (.int .i64 ((1 + vs.length + vs.length * 2 : Nat) : Int)) ∧ LawAt w' B V C (marks 1 vs.length) (marks (1 + vs.length) (vs.length * 2)) ∧ Kept2 w w' V.ownBlock C.ownBlock :=
  markLaw_any V C B vs fs 1 w hb (by omega) h
theorem heldLaw_one (V C : Value) (B : Nat) (n : Nat) (w : World) (hb : n ≤ 1048576) (h : LawAt w B V C (marks 1 n) (marks (1 + n) (n * 2))) :
    Calls Try.prog 29 #[.agg #[V, C], .int .i64 1] w fun e w' => e = .returned (.int .i64 ((1 + n + n * 2 : Nat) : Int)) ∧ Below w.heap.size w w' :=
  heldLaw_any V C B n 1 w hb (by omega) h
end Go.Proofs.Ytddmglgogjaajaa

import Derived.Test.YtaneocedklnajaaGreatFrS
/- Laws as values: the values and the chances, each a slice of its own; the laws' helpers on them. -/
namespace Go.Proofs.YtaneocedklnajaaGreat
open Go.RowKit
set_option linter.unusedVariables false

/-- V and C are the slices of a law with the values vs and the chances fs, two numbers a chance; both are owned. -/
structure LawAt (w : World) (B : Nat) (V C : Value) (vs fs : List Int) : Prop where
  val : w.ownsRow B 2 1 V vs.length (vs.map (Value.int .i64))
  cha : w.ownsRow B 40 2 C vs.length (fs.map (Value.int .i64))
  dis : Dis V C
theorem LawAt.below {w w' : World} {B : Nat} {V C : Value} {vs fs : List Int} (h : LawAt w B V C vs fs) (hb : Below w.heap.size w w') : LawAt w' B V C vs fs := ⟨own_below h.val hb, own_below h.cha hb, h.dis⟩
theorem LawAt.mono {w : World} {B B' : Nat} {V C : Value} {vs fs : List Int} (h : LawAt w B V C vs fs) (hB : B' ≤ B) : LawAt w B' V C vs fs := ⟨own_mono h.val hB, own_mono h.cha hB, h.dis⟩
theorem own_shape {w : World} {B E sz : Nat} {v : Value} {n : Nat} {xs : List Value} (h : w.ownsRow B E sz v n xs) : ∃ a c, v = .slice a n c := by
  rcases h.2 with ⟨e, h0⟩ | ⟨g, c, cur, e, _⟩
  · subst h0; exact ⟨_, _, e⟩
  · exact ⟨_, _, e⟩
/-- Nothing has changed but the blocks r1 and r2 and what is new. -/
structure Kept2 (w w' : World) (r1 r2 : Option Nat) : Prop where
  os : w'.os = w.os
  tape : w'.tape = w.tape
  output : w'.output = w.output
  size : w.heap.size ≤ w'.heap.size
  block : ∀ b, b < w.heap.size → some b ≠ r1 → some b ≠ r2 → w'.heap[b]? = w.heap[b]?
theorem Kept2.of {a b c : World} {r1 r2 : Option Nat} (h : a.grownBy b r1) (k : b.grownBy c r2) : Kept2 a c r1 r2 :=
  ⟨k.os.trans h.os, k.tape.trans h.tape, k.output.trans h.output, Nat.le_trans h.size k.size, fun i hi h1 h2 => (k.block i (Nat.lt_of_lt_of_le hi h.size) h2).trans (h.block i hi h1)⟩
theorem Kept2.own {w w' : World} {r1 r2 : Option Nat} {B E sz : Nat} {v : Value} {n : Nat} {xs : List Value} (hk : Kept2 w w' r1 r2) (h : w.ownsRow B E sz v n xs) (h1 : v.ownBlock = none ∨ v.ownBlock ≠ r1) (h2 : v.ownBlock = none ∨ v.ownBlock ≠ r2) : w'.ownsRow B E sz v n xs := by
  refine ⟨h.1, ?_⟩
  rcases h.2 with hn | ⟨g, cap, cur, rfl, hb, hgg, rest⟩
  · exact .inl hn
  · refine .inr ⟨g, cap, cur, rfl, hb, ?_, rest⟩
    simp only [Value.ownBlock, reduceCtorEq, false_or] at h1 h2
    rw [hk.block g (Array.getElem?_eq_some_iff.1 hgg).1 h1 h2]
    exact hgg
theorem Kept2.below {w0 w w' : World} {B : Nat} {r1 r2 : Option Nat} (h : Below B w0 w) (hk : Kept2 w w' r1 r2) (h1 : ∀ b, r1 = some b → B ≤ b) (h2 : ∀ b, r2 = some b → B ≤ b) (hB : B ≤ w.heap.size) : Below B w0 w' :=
  ⟨hk.os.trans h.os, hk.tape.trans h.tape, hk.output.trans h.output, Nat.le_trans h.size hk.size, fun b hb => (hk.block b (by omega) (fun e => by have := h1 b e.symm; omega) (fun e => by have := h2 b e.symm; omega)).trans (h.block b hb)⟩
theorem LawAt.kept {w w' : World} {B : Nat} {V C : Value} {vs fs : List Int} {r1 r2 : Option Nat} (h : LawAt w B V C vs fs) (hk : Kept2 w w' r1 r2) (h1 : ∀ b, r1 = some b → V.ownBlock ≠ some b ∧ C.ownBlock ≠ some b) (h2 : ∀ b, r2 = some b → V.ownBlock ≠ some b ∧ C.ownBlock ≠ some b) : LawAt w' B V C vs fs := by
  have aux : ∀ (v : Value) (r : Option Nat), (∀ b, r = some b → v.ownBlock ≠ some b) → v.ownBlock = none ∨ v.ownBlock ≠ r := fun v r hh => by
    cases r with
    | none => cases hv : v.ownBlock with
      | none => exact Or.inl rfl
      | some b => exact Or.inr (by simp)
    | some b => exact Or.inr (hh b rfl)
  exact ⟨hk.own h.val (aux V r1 fun b e => (h1 b e).1) (aux V r2 fun b e => (h2 b e).1), hk.own h.cha (aux C r1 fun b e => (h1 b e).2) (aux C r2 fun b e => (h2 b e).2), h.dis⟩
/-- A box that holds a law. -/
def LBox (w : World) (b : Nat) (V C : Value) : Prop := w.heap[b]? = some (.cells #[V, C] 29 (0, 0))
theorem LBox.below {w w' : World} {b : Nat} {V C : Value} (h : LBox w b V C) (hb : Below w.heap.size w w') : LBox w' b V C := (hb.block b (lt_of_heap h)).trans h
theorem LBox.kept {w w' : World} {b : Nat} {V C : Value} {r1 r2 : Option Nat} (h : LBox w b V C) (hk : Kept2 w w' r1 r2) (h1 : r1 ≠ some b) (h2 : r2 ≠ some b) : LBox w' b V C := (hk.block b (lt_of_heap h) (fun e => h1 e.symm) (fun e => h2 e.symm)).trans h
theorem LBox.cells {w : World} {b : Nat} {V C : Value} (h : LBox w b V C) : w.cell? ⟨b, 0, none⟩ = some V ∧ w.cell? ⟨b, 1, none⟩ = some C := by
  unfold LBox at h
  exact ⟨by simp [World.cell?, h], by simp [World.cell?, h]⟩
theorem eqLaw_same (V C V' C' : Value) (B B' : Nat) (vs fs : List Int) (w : World) (hb : vs.length ≤ 1048576) (h : LawAt w B V C vs fs) (h' : LawAt w B' V' C' vs fs) :
    Calls Tryz.prog 9 #[.agg #[V, C], .agg #[V', C']] w (Ret w (.bool true)) := by
  obtain ⟨a1, c1, rfl⟩ := own_shape h.val
  obtain ⟨a2, c2, rfl⟩ := own_shape h.cha
  obtain ⟨a3, c3, rfl⟩ := own_shape h'.val
  obtain ⟨a4, c4, rfl⟩ := own_shape h'.cha
  have i1 := IsInts.of_own h.val
  have i2 := IsInts.of_own2 h.cha
  have i3 := IsInts.of_own h'.val
  have i4 := IsInts.of_own2 h'.cha
  have hA : Below w.heap.size w ((w.alloc (.cells #[.slice a1 vs.length c1, .slice a2 vs.length c2] 29)).alloc (.cells #[.slice a3 vs.length c3, .slice a4 vs.length c4] 29)) := ((Below.refl _ w).alloc (Nat.le_refl _) _).alloc (by simp) _
  have H := Lib.hid (And.intro i1 (And.intro i2 (And.intro i3 (And.intro i4 hA))))
  clear h h' i1 i2 i3 i4 hA
  go_enter Tryz.func9, Tryz.ntmps9
  go_wp2_with fail
  refine (eqInt64S_any _ _ _ _ _ _ vs vs _ (by omega) (H.out.1.below H.out.2.2.2.2) (H.out.2.2.1.below H.out.2.2.2.2)).mono ?_
  rintro e w1 ⟨rfl, hb1⟩
  rw [decide_eq_true rfl]
  have q1 := (bcell hb1).1 w.heap.size 1 (by simp only [alloc_size]; omega)
  have r1 := (bcell hb1).1 (w.heap.size + 1) 1 (by simp only [alloc_size]; omega)
  simp at q1 r1
  have H1 := Lib.hid (bthen H.out.2.2.2.2 hb1)
  clear hb1
  go_wp2_with fail
  refine (eqFrS_same _ _ _ _ _ fs _ (by omega) (H.out.2.1.below H1.out) (H.out.2.2.2.1.below H1.out)).mono ?_
  rintro e w2 ⟨rfl, hb2⟩
  have H2 := Lib.hid (bthen H1.out hb2)
  clear hb2
  go_wp2
  go_ret
  exact ⟨rfl, H2.out⟩
theorem markLaw_any (V C : Value) (B : Nat) (vs fs : List Int) (k0 : Nat) (w : World) (hb : vs.length ≤ 1048576) (hk0 : k0 ≤ 1048576) (h : LawAt w B V C vs fs) :
    Calls Tryz.prog 10 #[.agg #[V, C], .int .i64 (k0 : Nat)] w fun e w' => e = .returned (.int .i64 ((k0 + vs.length + vs.length * 2 : Nat) : Int)) ∧ LawAt w' B V C (marks k0 vs.length) (marks (k0 + vs.length) (vs.length * 2)) ∧ Kept2 w w' V.ownBlock C.ownBlock := by
  obtain ⟨a1, c1, rfl⟩ := own_shape h.val
  obtain ⟨a2, c2, rfl⟩ := own_shape h.cha
  have hA : Below w.heap.size w (w.alloc (.cells #[.slice a1 vs.length c1, .slice a2 vs.length c2] 29)) := (Below.refl _ w).alloc (Nat.le_refl _) _
  have hG : w.grownBy (w.alloc (.cells #[.slice a1 vs.length c1, .slice a2 vs.length c2] 29)) (Value.ownBlock (.slice a1 vs.length c1)) := World.grownBy_alloc _ _ _
  have H := Lib.hid (And.intro (h.below hA) hG)
  have hlt1 := h.val.lt
  have HL := Lib.hid hlt1
  clear h hA hG hlt1
  go_enter Tryz.func10, Tryz.ntmps10
  go_wp2_with fail
  refine (markInt64S_any B _ _ _ vs k0 _ hb (by omega) H.out.1.val).mono ?_
  rintro e w1 ⟨rfl, ho1, hg1⟩
  have q1 : w1.cell? ⟨w.heap.size, 1, none⟩ = some (.slice a2 vs.length c2) := by
    have := hg1.block w.heap.size (by simp) (fun e => by have := (HL.out _ e.symm).2; omega)
    simp only [World.cell?, this, heap_at_new]
    rfl
  have hc1 := H.out.1.cha.kept hg1 (dis_symm H.out.1.dis)
  have H1 := Lib.hid (And.intro ho1 (And.intro hc1 (grownBy_trans H.out.2 hg1)))
  clear ho1 hg1 hc1
  rw [show ((k0 + vs.length : Nat) : Int) = (((k0 + vs.length : Nat)) : Int) from rfl]
  obtain ⟨k1, hk1⟩ : ∃ k1, k0 + vs.length = k1 := ⟨_, rfl⟩
  rw [hk1]
  have HK := Lib.hid hk1
  have hk1b : k1 ≤ 1152921504606846976 := by omega
  clear hk1
  go_wp2_with fail
  refine (markFrS_any B _ _ _ fs k1 _ hb hk1b H1.out.2.1).mono ?_
  rintro e w2 ⟨rfl, ho2, hg2⟩
  have H2 := Lib.hid (And.intro ho2 (And.intro (H1.out.1.kept hg2 H.out.1.dis) (Kept2.of H1.out.2.2 hg2)))
  clear ho2 hg2 q1
  go_wp2
  go_ret
  have hk := HK.out
  exact ⟨congrArg (fun z => Ending.returned (.int .i64 z)) (show (k1 : Int) + (vs.length : Int) * 2 = _ by omega), ⟨by rw [marks_len]; exact H2.out.2.1, by rw [marks_len, hk]; exact H2.out.1, H.out.1.dis⟩, H2.out.2.2⟩
theorem heldLaw_any (V C : Value) (B : Nat) (n : Nat) (k0 : Nat) (w : World) (hb : n ≤ 1048576) (hk0 : k0 ≤ 1048576) (h : LawAt w B V C (marks k0 n) (marks (k0 + n) (n * 2))) :
    Calls Tryz.prog 11 #[.agg #[V, C], .int .i64 (k0 : Nat)] w fun e w' => e = .returned (.int .i64 ((k0 + n + n * 2 : Nat) : Int)) ∧ Below w.heap.size w w' := by
  obtain ⟨a1, c1, rfl⟩ := own_shape h.val
  obtain ⟨a2, c2, rfl⟩ := own_shape h.cha
  have i1 := IsInts.of_own h.val
  have i2 := IsInts.of_own2 h.cha
  rw [marks_len] at i1 i2 ⊢
  have hA : Below w.heap.size w (w.alloc (.cells #[.slice a1 n c1, .slice a2 n c2] 29)) := (Below.refl _ w).alloc (Nat.le_refl _) _
  have H := Lib.hid (And.intro i1 (And.intro i2 hA))
  clear h hA i1 i2
  go_enter Tryz.func11, Tryz.ntmps11
  go_wp2_with fail
  refine (heldInt64S_any _ _ _ (marks k0 n) k0 _ hb (by omega) rfl (H.out.1.below H.out.2.2)).mono ?_
  rintro e w1 ⟨rfl, hb1⟩
  have q1 := (bcell hb1).1 w.heap.size 1 (by simp)
  simp at q1
  have H1 := Lib.hid (bthen H.out.2.2 hb1)
  clear hb1
  obtain ⟨k1, hk1⟩ : ∃ k1, k0 + n = k1 := ⟨_, rfl⟩
  rw [hk1] at H ⊢
  have hk1b : k1 ≤ 1152921504606846976 := by omega
  have HK := Lib.hid hk1
  clear hk1
  go_wp2_with fail
  refine (heldFrS_any _ _ _ k1 _ hb hk1b (H.out.2.1.below H1.out)).mono ?_
  rintro e w2 ⟨rfl, hb2⟩
  have H2 := Lib.hid (bthen H1.out hb2)
  clear hb2
  go_wp2
  go_ret
  have hk := HK.out
  exact ⟨congrArg (fun z => Ending.returned (.int .i64 z)) (show (k1 : Int) + (n : Int) * 2 = _ by omega), H2.out⟩
end Go.Proofs.YtaneocedklnajaaGreat
/- The walk of a law on a function that answers with a law: given what both sides answer. -/
namespace Go.Proofs.YtaneocedklnajaaGreat
open Go.RowKit
set_option linter.unusedVariables false

def RetLaw (w : World) (ok : Bool) (vs fs : List Int) (e : Ending) (w' : World) : Prop := ∃ V C, e = .returned (.tuple #[.agg #[V, C], .bool ok]) ∧ LawAt w' w.heap.size V C vs fs ∧ Below w.heap.size w w'
/-- A law was answered and laid in a box. -/
def LS1 (w w' : World) (b : Nat) (V0 C0 : Value) (vs fs : List Int) : Prop := LBox w' b V0 C0 ∧ LawAt w' w.heap.size V0 C0 vs fs ∧ Below w.heap.size w w' ∧ w.heap.size ≤ b ∧ V0.ownBlock ≠ some b ∧ C0.ownBlock ≠ some b
theorem own_ne {w : World} {B E sz : Nat} {v : Value} {n : Nat} {xs : List Value} (h : w.ownsRow B E sz v n xs) : v.ownBlock ≠ some w.heap.size := fun e => by
  have := (h.lt _ e).2
  omega
theorem lawSt_one {w w1 : World} {V0 C0 : Value} {vs fs : List Int} (h : LawAt w1 w.heap.size V0 C0 vs fs) (hb : Below w.heap.size w w1) : LS1 w (w1.alloc (.cells #[V0, C0] 29)) w1.heap.size V0 C0 vs fs :=
  ⟨heap_at_new _ _, h.below ((Below.refl _ _).alloc (Nat.le_refl _) _), bthen hb ((Below.refl _ _).alloc (Nat.le_refl _) _), hb.size, own_ne h.val, own_ne h.cha⟩
/-- Two laws, each in a box; the second one may be written. -/
structure LS2 (w w' : World) (b0 b1 : Nat) (V0 C0 V1 C1 : Value) (vs fs us gs : List Int) : Prop where
  x0 : LBox w' b0 V0 C0
  x1 : LBox w' b1 V1 C1
  l0 : LawAt w' w.heap.size V0 C0 vs fs
  l1 : LawAt w' w.heap.size V1 C1 us gs
  bel : Below w.heap.size w w'
  nv : V1.ownBlock ≠ some b0 ∧ V1.ownBlock ≠ some b1
  nc : C1.ownBlock ≠ some b0 ∧ C1.ownBlock ≠ some b1
  dv : ∀ b, V1.ownBlock = some b → V0.ownBlock ≠ some b ∧ C0.ownBlock ≠ some b
  dc : ∀ b, C1.ownBlock = some b → V0.ownBlock ≠ some b ∧ C0.ownBlock ≠ some b
theorem lawSt_two {w wA w2 : World} {b0 : Nat} {V0 C0 V1 C1 : Value} {vs fs us gs : List Int} (h : LS1 w wA b0 V0 C0 vs fs) (hl : LawAt w2 wA.heap.size V1 C1 us gs) (hb : Below wA.heap.size wA w2) :
    LS2 w (w2.alloc (.cells #[V1, C1] 29)) b0 w2.heap.size V0 C0 V1 C1 vs fs us gs := by
  obtain ⟨h1, h2, h3, h4, h5, h6⟩ := h
  have hA : Below w2.heap.size w2 (w2.alloc (.cells #[V1, C1] 29)) := (Below.refl _ _).alloc (Nat.le_refl _) _
  have hb0 := lt_of_heap h1
  have hge : ∀ (v : Value) (E sz n : Nat) (xs : List Value), w2.ownsRow wA.heap.size E sz v n xs → v.ownBlock ≠ some b0 := fun v E sz n xs ho e => by
    have := (ho.lt _ e).1
    omega
  have hold : ∀ (v v' : Value) (E sz n E' sz' n' B : Nat) (xs ys : List Value), w2.ownsRow wA.heap.size E sz v n xs → wA.ownsRow B E' sz' v' n' ys → ∀ b, v.ownBlock = some b → v'.ownBlock ≠ some b := fun v v' E sz n E' sz' n' B xs ys ho ho' b e e' => by
    have h1 := (ho.lt _ e).1
    have h2 := (ho'.lt _ e').2
    omega
  exact ⟨(h1.below hb).below hA, heap_at_new _ _, (h2.below hb).below hA, (hl.below hA).mono h3.size, bthen (bthen h3 hb) hA,
    ⟨hge _ _ _ _ _ hl.val, own_ne hl.val⟩, ⟨hge _ _ _ _ _ hl.cha, own_ne hl.cha⟩,
    fun b e => ⟨hold _ _ _ _ _ _ _ _ _ _ _ hl.val h2.val b e, hold _ _ _ _ _ _ _ _ _ _ _ hl.val h2.cha b e⟩,
    fun b e => ⟨hold _ _ _ _ _ _ _ _ _ _ _ hl.cha h2.val b e, hold _ _ _ _ _ _ _ _ _ _ _ hl.cha h2.cha b e⟩⟩
theorem LS2.below {w w' w'' : World} {b0 b1 : Nat} {V0 C0 V1 C1 : Value} {vs fs us gs : List Int} (h : LS2 w w' b0 b1 V0 C0 V1 C1 vs fs us gs) (hb : Below w'.heap.size w' w'') : LS2 w w'' b0 b1 V0 C0 V1 C1 vs fs us gs :=
  ⟨h.x0.below hb, h.x1.below hb, h.l0.below hb, h.l1.below hb, bthen h.bel hb, h.nv, h.nc, h.dv, h.dc⟩
theorem LS2.mark {w w' w'' : World} {b0 b1 : Nat} {V0 C0 V1 C1 : Value} {vs fs us gs us' gs' : List Int} (h : LS2 w w' b0 b1 V0 C0 V1 C1 vs fs us gs) (hl : LawAt w'' w.heap.size V1 C1 us' gs') (hk : Kept2 w' w'' V1.ownBlock C1.ownBlock) : LS2 w w'' b0 b1 V0 C0 V1 C1 vs fs us' gs' :=
  ⟨h.x0.kept hk h.nv.1 h.nc.1, h.x1.kept hk h.nv.2 h.nc.2, h.l0.kept hk h.dv h.dc, hl, hk.below h.bel (fun b e => (h.l1.val.lt _ e).1) (fun b e => (h.l1.cha.lt _ e).1) h.bel.size, h.nv, h.nc, h.dv, h.dc⟩
theorem LS2.cells {w w' : World} {b0 b1 : Nat} {V0 C0 V1 C1 : Value} {vs fs us gs : List Int} (h : LS2 w w' b0 b1 V0 C0 V1 C1 vs fs us gs) : w'.cell? ⟨b0, 0, none⟩ = some V0 ∧ w'.cell? ⟨b0, 1, none⟩ = some C0 ∧ w'.cell? ⟨b1, 0, none⟩ = some V1 ∧ w'.cell? ⟨b1, 1, none⟩ = some C1 :=
  ⟨h.x0.cells.1, h.x0.cells.2, h.x1.cells.1, h.x1.cells.2⟩
theorem markLaw_one (V C : Value) (B : Nat) (vs fs : List Int) (w : World) (hb : vs.length ≤ 1048576) (h : LawAt w B V C vs fs) :
    Calls Tryz.prog 10 #[.agg #[V, C], .int .i64 1] w fun e w' => e = .returned (.int .i64 ((1 + vs.length + vs.length * 2 : Nat) : Int)) ∧ LawAt w' B V C (marks 1 vs.length) (marks (1 + vs.length) (vs.length * 2)) ∧ Kept2 w w' V.ownBlock C.ownBlock :=
  markLaw_any V C B vs fs 1 w hb (by omega) h
theorem heldLaw_one (V C : Value) (B : Nat) (n : Nat) (w : World) (hb : n ≤ 1048576) (h : LawAt w B V C (marks 1 n) (marks (1 + n) (n * 2))) :
    Calls Tryz.prog 11 #[.agg #[V, C], .int .i64 1] w fun e w' => e = .returned (.int .i64 ((1 + n + n * 2 : Nat) : Int)) ∧ Below w.heap.size w w' :=
  heldLaw_any V C B n 1 w hb (by omega) h
end Go.Proofs.YtaneocedklnajaaGreat

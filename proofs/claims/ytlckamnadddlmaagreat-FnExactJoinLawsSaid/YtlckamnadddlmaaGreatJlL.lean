import Derived.Test.YtlckamnadddlmaaGreatJlT
import Derived.Test.YtlckamnadddlmaaGreatLawAX
/- The law on sums of laws: FnExactJoinLaws. No condition. -/
namespace Go.Proofs.YtlckamnadddlmaaGreat
open Go.RowKit
set_option linter.unusedVariables false

theorem C2.kept2 {w w' : World} {b : Nat} {x y : Value} {r1 r2 : Option Nat} (h : C2 w b x y) (hk : Kept2 w w' r1 r2) (h1 : some b ≠ r1) (h2 : some b ≠ r2) : C2 w' b x y := by
  have e := hk.block b h.lt h1 h2
  exact ⟨(cell_heap e 0).trans h.c0, (cell_heap e 1).trans h.c1, (frozen_heap e 0).trans h.f0, (frozen_heap e 1).trans h.f1, Nat.lt_of_lt_of_le h.lt hk.size⟩
/-- The arguments. -/
structure Jl0 (w : World) (V1 C1 V2 C2' : Value) (a1 a2 u1 u2 : Option Addr) (n1 m1 n2 m2 : Nat) (vs fs us gs : List Int) (wr : World) : Prop where
  b0 : C2 wr w.heap.size V1 C1
  b1 : C2 wr (w.heap.size + 1) V2 C2'
  x1 : IsInts wr a1 n1 vs
  x2 : IsInts wr a2 (m1 * 2) fs
  y1 : IsInts wr u1 n2 us
  y2 : IsInts wr u2 (m2 * 2) gs
  bel : Below w.heap.size w wr
theorem Jl0.all {w : World} {V1 C1 V2 C2' : Value} {a1 a2 u1 u2 : Option Addr} {n1 m1 n2 m2 : Nat} {vs fs us gs : List Int} {wr wx : World} (h : Jl0 w V1 C1 V2 C2' a1 a2 u1 u2 n1 m1 n2 m2 vs fs us gs wr) (hb : Below wr.heap.size wr wx) : Jl0 w V1 C1 V2 C2' a1 a2 u1 u2 n1 m1 n2 m2 vs fs us gs wx :=
  ⟨h.b0.all hb, h.b1.all hb, h.x1.below hb, h.x2.below hb, h.y1.below hb, h.y2.below hb, bthen h.bel hb⟩
theorem Jl0.start {w : World} {V1 C1 V2 C2' : Value} {a1 a2 u1 u2 : Option Addr} {n1 m1 n2 m2 : Nat} {vs fs us gs : List Int} (h1 : IsInts w a1 n1 vs) (h2 : IsInts w a2 (m1 * 2) fs) (k1 : IsInts w u1 n2 us) (k2 : IsInts w u2 (m2 * 2) gs) (t : Nat) :
    Jl0 w V1 C1 V2 C2' a1 a2 u1 u2 n1 m1 n2 m2 vs fs us gs ((w.alloc (.cells #[V1, C1] t)).alloc (.cells #[V2, C2'] t)) := by
  have hA : Below w.heap.size w ((w.alloc (.cells #[V1, C1] t)).alloc (.cells #[V2, C2'] t)) := ((Below.refl _ w).alloc (Nat.le_refl _) _).alloc (by simp) _
  have e1 : (w.alloc (.cells #[V1, C1] t)).heap.size = w.heap.size + 1 := alloc_size _ _
  refine ⟨(C2.new w t V1 C1).all ((Below.refl _ _).alloc (Nat.le_refl _) _), ?_, h1.below hA, h2.below hA, k1.below hA, k2.below hA, hA⟩
  have := C2.new (w.alloc (.cells #[V1, C1] t)) t V2 C2'
  rw [e1] at this
  exact this
theorem Jl0.kept2 {w : World} {V1 C1 V2 C2' : Value} {a1 a2 u1 u2 : Option Addr} {n1 m1 n2 m2 : Nat} {vs fs us gs : List Int} {wr wx w0 : World} {r1 r2 : Option Nat} (h : Jl0 w V1 C1 V2 C2' a1 a2 u1 u2 n1 m1 n2 m2 vs fs us gs wr) (hk : Kept2 wr wx r1 r2) (h1 : ∀ b, r1 = some b → w.heap.size + 2 ≤ b) (h2 : ∀ b, r2 = some b → w.heap.size + 2 ≤ b)
    (z1 : IsInts w a1 n1 vs) (z2 : IsInts w a2 (m1 * 2) fs) (z3 : IsInts w u1 n2 us) (z4 : IsInts w u2 (m2 * 2) gs) : Jl0 w V1 C1 V2 C2' a1 a2 u1 u2 n1 m1 n2 m2 vs fs us gs wx := by
  have hb := Kept2.below h.bel hk (fun b e => by have := h1 b e; omega) (fun b e => by have := h2 b e; omega) h.bel.size
  exact ⟨h.b0.kept2 hk (fun e => by have := h1 _ e.symm; omega) (fun e => by have := h2 _ e.symm; omega), h.b1.kept2 hk (fun e => by have := h1 _ e.symm; omega) (fun e => by have := h2 _ e.symm; omega), z1.below hb, z2.below hb, z3.below hb, z4.below hb, hb⟩
/-- A law was answered and laid in a box. -/
structure JlC (wB wc : World) (b : Nat) (V C : Value) (vs fs : List Int) : Prop where
  box : C2 wc b V C
  law : LawAt wc wB.heap.size V C vs fs
  bel : Below wB.heap.size wB wc
  lo : wB.heap.size ≤ b
  nv : V.ownBlock ≠ some b
  nc : C.ownBlock ≠ some b
theorem JlC.all {wB wc wx : World} {b : Nat} {V C : Value} {vs fs : List Int} (h : JlC wB wc b V C vs fs) (hb : Below wc.heap.size wc wx) : JlC wB wx b V C vs fs :=
  ⟨h.box.all hb, h.law.below hb, bthen h.bel hb, h.lo, h.nv, h.nc⟩
theorem JlC.hi {wB wc : World} {b : Nat} {V C : Value} {vs fs : List Int} (h : JlC wB wc b V C vs fs) : b < wc.heap.size ∧ (∀ k, V.ownBlock = some k → k < wc.heap.size) ∧ (∀ k, C.ownBlock = some k → k < wc.heap.size) :=
  ⟨h.box.lt, fun k e => (h.law.val.lt k e).2, fun k e => (h.law.cha.lt k e).2⟩
theorem JlC.store {wB wq : World} {b : Nat} {V C x y : Value} {vs fs : List Int} (hc : C2 wq b x y) (hl : LawAt wq wB.heap.size V C vs fs) (hb : Below wB.heap.size wB wq) (lo : wB.heap.size ≤ b) (nv : V.ownBlock ≠ some b) (nc : C.ownBlock ≠ some b) :
    JlC wB ((wq.setCell ⟨b, 0, none⟩ V).setCell ⟨b, 1, none⟩ C) b V C vs fs := by
  have hg := grownBy_trans (grownBy_setCell wq ⟨b, 0, none⟩ V) (grownBy_setCell (wq.setCell ⟨b, 0, none⟩ V) ⟨b, 1, none⟩ C)
  have aux : ∀ (v : Value), v.ownBlock ≠ some b → v.ownBlock = none ∨ v.ownBlock ≠ some b := fun v hv => Or.inr hv
  exact ⟨(hc.set0 V).set1 C, ⟨hl.val.kept hg (aux V nv), hl.cha.kept hg (aux C nc), hl.dis⟩, (hb.setCell (p := ⟨b, 0, none⟩) lo _).setCell (p := ⟨b, 1, none⟩) lo _, lo, nv, nc⟩
/-- A law was answered, then its box was made. -/
theorem JlC.new {w0 wq : World} {V C : Value} {vs fs : List Int} (hl : LawAt wq w0.heap.size V C vs fs) (hb : Below w0.heap.size w0 wq) (t : Nat) : JlC w0 (wq.alloc (.cells #[V, C] t)) wq.heap.size V C vs fs := by
  have hA : Below wq.heap.size wq (wq.alloc (.cells #[V, C] t)) := (Below.refl _ _).alloc (Nat.le_refl _) _
  exact ⟨C2.new wq t V C, hl.below hA, bthen hb hA, hb.size, own_ne hl.val, own_ne hl.cha⟩
/-- A copy of a law, in a box. -/
structure JlX (w0 wr : World) (b g1 g2 k1 k2 n m : Nat) (vs fs : List Int) : Prop where
  box : C2 wr b (.slice (some ⟨g1, 0, none⟩) n k1) (.slice (some ⟨g2, 0, none⟩) m k2)
  law : Law2 wr w0.heap.size g1 g2 k1 k2 n m vs fs
  bel : Below w0.heap.size w0 wr
  lo : w0.heap.size ≤ b
  n1 : g1 ≠ b
  n2 : g2 ≠ b
theorem JlX.all {w0 wr wx : World} {b g1 g2 k1 k2 n m : Nat} {vs fs : List Int} (h : JlX w0 wr b g1 g2 k1 k2 n m vs fs) (hb : Below wr.heap.size wr wx) : JlX w0 wx b g1 g2 k1 k2 n m vs fs := ⟨h.box.all hb, h.law.below hb, bthen h.bel hb, h.lo, h.n1, h.n2⟩
theorem JlX.rng {w0 wr : World} {b g1 g2 k1 k2 n m : Nat} {vs fs : List Int} (h : JlX w0 wr b g1 g2 k1 k2 n m vs fs) : w0.heap.size ≤ g1 ∧ g1 < wr.heap.size ∧ w0.heap.size ≤ g2 ∧ g2 < wr.heap.size ∧ b < wr.heap.size := ⟨(h.law.val.lt g1 rfl).1, (h.law.val.lt g1 rfl).2, (h.law.cha.lt g2 rfl).1, (h.law.cha.lt g2 rfl).2, h.box.lt⟩
theorem JlX.new {w0 wq : World} {g1 g2 k1 k2 n m : Nat} {vs fs : List Int} (hl : Law2 wq w0.heap.size g1 g2 k1 k2 n m vs fs) (hb : Below w0.heap.size w0 wq) (t : Nat) : JlX w0 (wq.alloc (.cells #[.slice (some ⟨g1, 0, none⟩) n k1, .slice (some ⟨g2, 0, none⟩) m k2] t)) wq.heap.size g1 g2 k1 k2 n m vs fs := by
  have hA : Below wq.heap.size wq (wq.alloc (.cells #[.slice (some ⟨g1, 0, none⟩) n k1, .slice (some ⟨g2, 0, none⟩) m k2] t)) := (Below.refl _ _).alloc (Nat.le_refl _) _
  exact ⟨C2.new wq t _ _, hl.below hA, bthen hb hA, hb.size, fun e => by have := (hl.val.lt g1 rfl).2; omega, fun e => by have := (hl.cha.lt g2 rfl).2; omega⟩
/-- What is read after the marking. -/
structure JlH (w : World) (V1 C1 V2 C2' : Value) (a1 a2 u1 u2 : Option Addr) (n1 m1 n2 m2 : Nat) (vs fs us gs : List Int) (p1 p3 b6 b10 : Nat) (V0 C0 V3 C3 : Value) (rv rf gv gf : List Int) (wr : World) : Prop where
  a : Jl0 w V1 C1 V2 C2' a1 a2 u1 u2 n1 m1 n2 m2 vs fs us gs wr
  wb : C2 wr b6 V0 C0
  wl : LawAt wr w.heap.size V0 C0 rv rf
  gb : C2 wr b10 V3 C3
  gl : LawAt wr p3 V3 C3 gv gf
  h1 : b6 < p1
  h2 : ∀ k, V0.ownBlock = some k → k < p1
  h3 : ∀ k, C0.ownBlock = some k → k < p1
  h4 : p3 ≤ b10
  h5 : V3.ownBlock ≠ some b10
  h6 : C3.ownBlock ≠ some b10
  h7 : w.heap.size + 2 ≤ p1
  h8 : p1 ≤ p3
theorem JlH.all {w : World} {V1 C1 V2 C2' : Value} {a1 a2 u1 u2 : Option Addr} {n1 m1 n2 m2 : Nat} {vs fs us gs : List Int} {p1 p3 b6 b10 : Nat} {V0 C0 V3 C3 : Value} {rv rf gv gf : List Int} {wr wx : World} (h : JlH w V1 C1 V2 C2' a1 a2 u1 u2 n1 m1 n2 m2 vs fs us gs p1 p3 b6 b10 V0 C0 V3 C3 rv rf gv gf wr) (hb : Below wr.heap.size wr wx) :
    JlH w V1 C1 V2 C2' a1 a2 u1 u2 n1 m1 n2 m2 vs fs us gs p1 p3 b6 b10 V0 C0 V3 C3 rv rf gv gf wx := ⟨h.a.all hb, h.wb.all hb, h.wl.below hb, h.gb.all hb, h.gl.below hb, h.h1, h.h2, h.h3, h.h4, h.h5, h.h6, h.h7, h.h8⟩
theorem law_kept {w w' : World} {B : Nat} {V C : Value} {vs fs : List Int} {r1 r2 : Option Nat} (h : LawAt w B V C vs fs) (hk : Kept2 w w' r1 r2) (h1 : ∀ k, V.ownBlock = some k → r1 ≠ some k ∧ r2 ≠ some k) (h2 : ∀ k, C.ownBlock = some k → r1 ≠ some k ∧ r2 ≠ some k) : LawAt w' B V C vs fs :=
  h.kept hk (fun b e => ⟨fun e2 => (h1 b e2).1 e, fun e2 => (h2 b e2).1 e⟩) (fun b e => ⟨fun e2 => (h1 b e2).2 e, fun e2 => (h2 b e2).2 e⟩)
/-- A copy was marked. -/
theorem JlH.mark {w : World} {V1 C1 V2 C2' : Value} {a1 a2 u1 u2 : Option Addr} {n1 m1 n2 m2 : Nat} {vs fs us gs : List Int} {p1 p3 b6 b10 : Nat} {V0 C0 V3 C3 : Value} {rv rf gv gf : List Int} {wr wx : World} {g1 g2 : Nat} (h : JlH w V1 C1 V2 C2' a1 a2 u1 u2 n1 m1 n2 m2 vs fs us gs p1 p3 b6 b10 V0 C0 V3 C3 rv rf gv gf wr)
    (hk : Kept2 wr wx (some g1) (some g2)) (e1 : p1 ≤ g1) (e2 : p1 ≤ g2) (e3 : g1 < p3) (e4 : g2 < p3) (z1 : IsInts w a1 n1 vs) (z2 : IsInts w a2 (m1 * 2) fs) (z3 : IsInts w u1 n2 us) (z4 : IsInts w u2 (m2 * 2) gs) :
    JlH w V1 C1 V2 C2' a1 a2 u1 u2 n1 m1 n2 m2 vs fs us gs p1 p3 b6 b10 V0 C0 V3 C3 rv rf gv gf wx := by
  have q1 := h.h1; have q4 := h.h4; have q7 := h.h7
  have aux : ∀ k : Nat, k < p1 ∨ p3 ≤ k → (some g1 : Option Nat) ≠ some k ∧ (some g2 : Option Nat) ≠ some k := fun k hkk => ⟨fun e => by injection e; omega, fun e => by injection e; omega⟩
  exact ⟨h.a.kept2 (w0 := w) hk (fun b e => by injection e; omega) (fun b e => by injection e; omega) z1 z2 z3 z4, h.wb.kept2 hk (aux b6 (Or.inl q1)).1.symm (aux b6 (Or.inl q1)).2.symm, law_kept h.wl hk (fun k e => aux k (Or.inl (h.h2 k e))) (fun k e => aux k (Or.inl (h.h3 k e))),
    h.gb.kept2 hk (aux b10 (Or.inr q4)).1.symm (aux b10 (Or.inr q4)).2.symm, law_kept h.gl hk (fun k e => aux k (Or.inr (h.gl.val.lt k e).1)) (fun k e => aux k (Or.inr (h.gl.cha.lt k e).1)), h.h1, h.h2, h.h3, h.h4, h.h5, h.h6, h.h7, h.h8⟩
/-- The answer was marked. -/
theorem JlH.markG {w : World} {V1 C1 V2 C2' : Value} {a1 a2 u1 u2 : Option Addr} {n1 m1 n2 m2 : Nat} {vs fs us gs : List Int} {p1 p3 b6 b10 : Nat} {V0 C0 V3 C3 : Value} {rv rf gv gf gv' gf' : List Int} {wr wx : World} (h : JlH w V1 C1 V2 C2' a1 a2 u1 u2 n1 m1 n2 m2 vs fs us gs p1 p3 b6 b10 V0 C0 V3 C3 rv rf gv gf wr)
    (hk : Kept2 wr wx V3.ownBlock C3.ownBlock) (hm : LawAt wx p3 V3 C3 gv' gf') (z1 : IsInts w a1 n1 vs) (z2 : IsInts w a2 (m1 * 2) fs) (z3 : IsInts w u1 n2 us) (z4 : IsInts w u2 (m2 * 2) gs) :
    JlH w V1 C1 V2 C2' a1 a2 u1 u2 n1 m1 n2 m2 vs fs us gs p1 p3 b6 b10 V0 C0 V3 C3 rv rf gv' gf' wx := by
  have q1 := h.h1; have q7 := h.h7; have q8 := h.h8
  have b1 : ∀ k, V3.ownBlock = some k → p3 ≤ k := fun k e => (h.gl.val.lt k e).1
  have b2 : ∀ k, C3.ownBlock = some k → p3 ≤ k := fun k e => (h.gl.cha.lt k e).1
  have aux : ∀ k : Nat, k < p1 → V3.ownBlock ≠ some k ∧ C3.ownBlock ≠ some k := fun k hkk => ⟨fun e => by have := b1 k e; omega, fun e => by have := b2 k e; omega⟩
  exact ⟨h.a.kept2 (w0 := w) hk (fun b e => by have := b1 b e; omega) (fun b e => by have := b2 b e; omega) z1 z2 z3 z4, h.wb.kept2 hk (aux b6 q1).1.symm (aux b6 q1).2.symm, law_kept h.wl hk (fun k e => aux k (h.h2 k e)) (fun k e => aux k (h.h3 k e)),
    h.gb.kept2 hk (fun e => h.h5 e.symm) (fun e => h.h6 e.symm), hm, h.h1, h.h2, h.h3, h.h4, h.h5, h.h6, h.h7, h.h8⟩
theorem markLaw2_any (g1 g2 c1 c2 n m B : Nat) (vs fs : List Int) (k0 : Nat) (w : World) (hn : n ≤ 1048576) (hm : m ≤ 1048576) (hk0 : k0 ≤ 100000000) (h : Law2 w B g1 g2 c1 c2 n m vs fs) :
    Calls Tryz.prog 10 #[.agg #[.slice (some ⟨g1, 0, none⟩) n c1, .slice (some ⟨g2, 0, none⟩) m c2], .int .i64 (k0 : Nat)] w fun e w' => e = .returned (.int .i64 ((k0 + n + m * 2 : Nat) : Int)) ∧ Kept2 w w' (some g1) (some g2) := by
  have hA : Below w.heap.size w (w.alloc (.cells #[.slice (some ⟨g1, 0, none⟩) n c1, .slice (some ⟨g2, 0, none⟩) m c2] 29)) := (Below.refl _ w).alloc (Nat.le_refl _) _
  have hG : w.grownBy (w.alloc (.cells #[.slice (some ⟨g1, 0, none⟩) n c1, .slice (some ⟨g2, 0, none⟩) m c2] 29)) (some g1) := World.grownBy_alloc _ _ _
  have H := Lib.hid (And.intro (h.below hA) hG)
  have hlt1 := (h.val.lt g1 rfl).2
  have HL := Lib.hid hlt1
  clear h hA hG hlt1
  go_enter Tryz.func10, Tryz.ntmps10
  go_wp2_with fail
  refine (markInt64S_any B _ _ _ vs k0 _ hn (by omega) H.out.1.val).mono ?_
  rintro e w1 ⟨rfl, ho1, hg1⟩
  have q1 : w1.cell? ⟨w.heap.size, 1, none⟩ = some (.slice (some ⟨g2, 0, none⟩) m c2) := by
    have := hg1.block w.heap.size (by simp) (fun e => by have := HL.out; simp only [Value.ownBlock, Option.some.injEq] at e; omega)
    simp only [World.cell?, this, heap_at_new]
    rfl
  have hc1 := H.out.1.cha.kept hg1 (Or.inr (by have := H.out.1.ne; simp only [Value.ownBlock, ne_eq, Option.some.injEq]; omega))
  have H1 := Lib.hid (And.intro hc1 (grownBy_trans H.out.2 hg1))
  clear ho1 hg1 hc1
  obtain ⟨k1, hk1⟩ : ∃ k1, k0 + n = k1 := ⟨_, rfl⟩
  rw [hk1]
  have hk1b : k1 ≤ 1152921504606846976 := by omega
  have HK := Lib.hid hk1
  clear hk1
  go_wp2_with fail
  refine (markFrS_any B _ _ _ fs k1 _ hm hk1b H1.out.1).mono ?_
  rintro e w2 ⟨rfl, ho2, hg2⟩
  have H2 := Lib.hid (Kept2.of H1.out.2 hg2)
  clear ho2 hg2 q1
  go_wp2
  go_ret
  have hk := HK.out
  exact ⟨congrArg (fun z => Ending.returned (.int .i64 z)) (show (k1 : Int) + (m : Int) * 2 = _ by omega), H2.out⟩
theorem markLaw2_one (g1 g2 c1 c2 n m B : Nat) (vs fs : List Int) (w : World) (hn : n ≤ 1048576) (hm : m ≤ 1048576) (h : Law2 w B g1 g2 c1 c2 n m vs fs) :
    Calls Tryz.prog 10 #[.agg #[.slice (some ⟨g1, 0, none⟩) n c1, .slice (some ⟨g2, 0, none⟩) m c2], .int .i64 1] w fun e w' => e = .returned (.int .i64 ((1 + n + m * 2 : Nat) : Int)) ∧ Kept2 w w' (some g1) (some g2) :=
  markLaw2_any g1 g2 c1 c2 n m B vs fs 1 w hn hm (by omega) h
set_option maxRecDepth 100000 in
set_option maxHeartbeats 6400000 in
theorem fnExactJoinLaws_of (a1 a2 u1 u2 : Option Addr) (n1 m1 c1 c2 n2 m2 d1 d2 : Nat) (vs fs us gs : List Int) (w : World) (hn1 : n1 ≤ maxLen) (hm1 : m1 ≤ maxLen) (hn2 : n2 ≤ maxLen) (hm2 : m2 ≤ maxLen) (h1 : IsInts w a1 n1 vs) (h2 : IsInts w a2 (m1 * 2) fs) (k1 : IsInts w u1 n2 us) (k2 : IsInts w u2 (m2 * 2) gs) (ok : Bool) (RV RF : List Int) (hRV : RV.length ≤ 1000000)
    (HS0 : n1 + m1 + n2 + m2 ≤ 1048576 → ∀ (w : World) (a1 a2 u1 u2 : Option Addr) (c1 c2 d1 d2 : Nat), IsInts w a1 n1 vs → IsInts w a2 (m1 * 2) fs → IsInts w u1 n2 us → IsInts w u2 (m2 * 2) gs → Calls Tryz.prog 6 #[.agg #[.slice a1 n1 c1, .slice a2 m1 c2], .agg #[.slice u1 n2 d1, .slice u2 m2 d2]] w (RetLaw w ok RV RF))
    (HI0 : n1 + m1 + n2 + m2 ≤ 1048576 → ∀ (w : World) (a1 a2 u1 u2 : Option Addr) (c1 c2 d1 d2 : Nat), IsInts w a1 n1 vs → IsInts w a2 (m1 * 2) fs → IsInts w u1 n2 us → IsInts w u2 (m2 * 2) gs → Calls Tryz.prog 8 #[.agg #[.slice a1 n1 c1, .slice a2 m1 c2], .agg #[.slice u1 n2 d1, .slice u2 m2 d2]] w (RetLaw w ok RV RF)) :
    Calls Tryz.prog 3 #[.agg #[.slice a1 n1 c1, .slice a2 m1 c2], .agg #[.slice u1 n2 d1, .slice u2 m2 d2]] w fun e w' => e = .returned (.bool true) ∧ Below w.heap.size w w' := by
  have H0 := Lib.hid (Jl0.start (w := w) (V1 := .slice a1 n1 c1) (C1 := .slice a2 m1 c2) (V2 := .slice u1 n2 d1) (C2' := .slice u2 m2 d2) h1 h2 k1 k2 25)
  have HZZ := Lib.hid (And.intro h1 (And.intro h2 (And.intro k1 k2)))
  clear h1 h2 k1 k2
  by_cases hsz1 : n1 + m1 ≤ 1048576
  · have HZ := Lib.hid (fun w => szLaw_yes a1 a2 n1 m1 c1 c2 1048576 w (Nat.le_refl _) hsz1)
    obtain ⟨z, hz⟩ : ∃ z, 1048576 - n1 - m1 = z := ⟨_, rfl⟩
    have hz0 : ¬ (z : Int) < 0 := by omega
    have hzle : z ≤ 1048576 := by omega
    rw [hz] at HZ
    have HZE := Lib.hid hz
    clear hz
    obtain ⟨x0, x1, x2, x3, x4⟩ := H0.out.b0
    go_enter Tryz.func3, Tryz.ntmps3
    go_wp2_with fail
    refine (HZ.out _).mono ?_
    rintro e w1 ⟨rfl, hb⟩
    have H1 := Lib.hid (H0.out.all hb)
    clear hb x0 x1 x2 x3 x4 H0
    obtain ⟨y0, y1, y2, y3, y4⟩ := H1.out.b1
    by_cases hsz2 : n2 + m2 ≤ z
    · have hsz : n1 + m1 + n2 + m2 ≤ 1048576 := by have := HZE.out; omega
      have HZ2 := Lib.hid (fun w => szLaw_yes u1 u2 n2 m2 d1 d2 z w hzle hsz2)
      have hz3 : ¬ ((z - n2 - m2 : Nat) : Int) < 0 := by omega
      obtain ⟨z2, hz2⟩ : ∃ z2, z - n2 - m2 = z2 := ⟨_, rfl⟩
      rw [hz2] at HZ2 hz3
      clear hz2
      have HT1 := Lib.hid (fun w a1 a2 c1 c2 h1 h2 => toLaw_any a1 a2 n1 m1 c1 c2 vs fs w (by omega) (by omega) h1 h2)
      have HT2 := Lib.hid (fun w a1 a2 c1 c2 h1 h2 => toLaw_any a1 a2 n2 m2 c1 c2 us gs w (by omega) (by omega) h1 h2)
      have HE1 := Lib.hid (fun w a1 a2 b1 b2 c1 c2 d1 d2 h1 h2 k1 k2 => eqLaw_read a1 a2 b1 b2 n1 m1 c1 c2 d1 d2 vs fs w (by omega) (by omega) h1 h2 k1 k2)
      have HE2 := Lib.hid (fun w a1 a2 b1 b2 c1 c2 d1 d2 h1 h2 k1 k2 => eqLaw_read a1 a2 b1 b2 n2 m2 c1 c2 d1 d2 us gs w (by omega) (by omega) h1 h2 k1 k2)
      have HS := Lib.hid (HS0 hsz)
      have HI := Lib.hid (HI0 hsz)
      have hn1' : n1 ≤ 1048576 := by omega
      have hm1' : m1 ≤ 1048576 := by omega
      have hn2' : n2 ≤ 1048576 := by omega
      have hm2' : m2 ≤ 1048576 := by omega
      clear HS0 HI0 hsz hsz1 hsz2
      go_wp2_with fail
      refine (HZ2.out _).mono ?_
      rintro e wB ⟨rfl, hb⟩
      have HB := Lib.hid (H1.out.all hb)
      clear hb y0 y1 y2 y3 y4 H1 HZ HZ2
      obtain ⟨x0, x1, x2, x3, x4⟩ := HB.out.b0
      obtain ⟨y0, y1, y2, y3, y4⟩ := HB.out.b1
      go_wp2_with fail
      go_cut [6, 7] (fun v6 v7 wc => ∃ (b6 : Nat) (V0 C0 : Value), v6 = .pointer (some ⟨b6, 0, none⟩) ∧ v7 = .bool ok ∧ Hid (JlC wB wc b6 V0 C0 RV RF))
      case first =>
        have HA0 := Lib.hid ((HB.out).all (Below.refl _ wB).drew)
        have hS : wB.drew.cell? ⟨w.heap.size, 0, none⟩ = some (.slice a1 n1 c1) ∧ wB.drew.cell? ⟨w.heap.size, 1, none⟩ = some (.slice a2 m1 c2) ∧ wB.drew.cell? ⟨w.heap.size + 1, 0, none⟩ = some (.slice u1 n2 d1) ∧ wB.drew.cell? ⟨w.heap.size + 1, 1, none⟩ = some (.slice u2 m2 d2) := ⟨HA0.out.b0.c0, HA0.out.b0.c1, HA0.out.b1.c0, HA0.out.b1.c1⟩
        have HBB0 := Lib.hid ((Below.refl wB.heap.size wB).drew)
        refine wp_region_any (by kernel_rfl) (any_of_K (k := 10) (S := fun w' => w'.cell? ⟨w.heap.size, 0, none⟩ = some (.slice a1 n1 c1) ∧ w'.cell? ⟨w.heap.size, 1, none⟩ = some (.slice a2 m1 c2) ∧ w'.cell? ⟨w.heap.size + 1, 0, none⟩ = some (.slice u1 n2 d1) ∧ w'.cell? ⟨w.heap.size + 1, 1, none⟩ = some (.slice u2 m2 d2)) (T := fun _ => True) _ _ _ _ ?_)
        change anyK _ _ _ _ _ _ _ _ _ _ (World.drew wB)
        obtain ⟨wD0, hwD0⟩ : ∃ w', wB.drew = w' := ⟨_, rfl⟩
        rw [hwD0] at HA0 HBB0 hS ⊢
        clear hwD0
        refine anyK_take (i := 0) (n := 10) (v := .agg #[.slice a1 n1 c1, .slice a2 m1 c2]) rfl rfl (by kernel_rfl) (by kernel_rfl) (by kernel_rfl) (by kernel_rfl) (by kernel_rfl) (fun _ _ _ h => h) (Or.inl ⟨by kernel_rfl, fun w' hw => by (obtain ⟨z0, z1, z2, z3⟩ := hw; go_simp)⟩) hS trivial ?_
        refine anyK_take (i := 2) (n := 9) (v := .agg #[.slice u1 n2 d1, .slice u2 m2 d2]) rfl rfl (by kernel_rfl) (by kernel_rfl) (by kernel_rfl) (by kernel_rfl) (by kernel_rfl) (fun _ _ _ h => h) (Or.inl ⟨by kernel_rfl, fun w' hw => by (obtain ⟨z0, z1, z2, z3⟩ := hw; go_simp)⟩) hS trivial ?_
        refine anyK_all (n := 8) (rs := [1, 8]) (by kernel_rfl) (by simp) (fun i hi => ?_)
        simp only [List.mem_cons, List.not_mem_nil, or_false] at hi
        rcases hi with rfl | rfl
        · refine wpOp_step rfl (fun K' hK => ?_)
          go_simp
          refine (HT1.out _ _ _ _ _ HA0.out.x1 HA0.out.x2).mono ?_
          rintro e v1 ⟨e1, f1, g1, h1, rfl, hl, hb⟩
          have HA1 := Lib.hid (HA0.out.all hb)
          have HBB1 := Lib.hid (bthen HBB0.out hb)
          have Hl11 := Lib.hid hl.ints
          refine hK _ _ ⟨fun _ _ => ⟨HA1.out.b0.c0, HA1.out.b0.c1, HA1.out.b1.c0, HA1.out.b1.c1⟩, trivial, ?_⟩
          clear hK hl hb
          refine anyK_all (n := 7) (rs := [3, 8]) (by kernel_rfl) (by simp) (fun i hi => ?_)
          simp only [List.mem_cons, List.not_mem_nil, or_false] at hi
          rcases hi with rfl | rfl
          · refine wpOp_step rfl (fun K' hK => ?_)
            go_simp
            refine (HT2.out _ _ _ _ _ HA1.out.y1 HA1.out.y2).mono ?_
            rintro e v2 ⟨e2, f2, g2, h2, rfl, hl, hb⟩
            have HA2 := Lib.hid (HA1.out.all hb)
            have HBB2 := Lib.hid (bthen HBB1.out hb)
            have Hl12 := Lib.hid (And.intro (Hl11.out.1.below hb) (Hl11.out.2.below hb))
            have Hl22 := Lib.hid hl.ints
            refine hK _ _ ⟨fun _ _ => ⟨HA2.out.b0.c0, HA2.out.b0.c1, HA2.out.b1.c0, HA2.out.b1.c1⟩, trivial, ?_⟩
            clear hK hl hb
            refine anyK_all (n := 6) (rs := [4, 8]) (by kernel_rfl) (by simp) (fun i hi => ?_)
            simp only [List.mem_cons, List.not_mem_nil, or_false] at hi
            rcases hi with rfl | rfl
            · refine wpOp_step rfl (fun K' hK => ?_)
              go_simp
              refine (HS.out _ _ _ _ _ _ _ _ _ Hl12.out.1 Hl12.out.2 Hl22.out.1 Hl22.out.2).mono ?_
              rintro e v3 ⟨V, Cc, rfl, hl, hb⟩
              obtain ⟨pa3, qa3, rfl⟩ := own_shape hl.val
              obtain ⟨pb3, qb3, rfl⟩ := own_shape hl.cha
              have HA3 := Lib.hid (HA2.out.all hb)
              have HBB3 := Lib.hid (bthen HBB2.out hb)
              have Hl13 := Lib.hid (And.intro (Hl12.out.1.below hb) (Hl12.out.2.below hb))
              have Hl23 := Lib.hid (And.intro (Hl22.out.1.below hb) (Hl22.out.2.below hb))
              have HR3 := Lib.hid (And.intro (hl.mono HBB2.out.size) trivial)
              refine hK _ _ ⟨fun _ _ => ⟨HA3.out.b0.c0, HA3.out.b0.c1, HA3.out.b1.c0, HA3.out.b1.c1⟩, trivial, ?_⟩
              clear hK hl hb
              refine anyT_take (i := 5) (n := 5) (v := .tuple #[.agg #[(.slice pa3 RV.length qa3), (.slice pb3 RV.length qb3)], .bool ok]) rfl (by decide) (by kernel_rfl) (by kernel_rfl) (by kernel_rfl) (fun _ _ _ h => h) (Or.inl ⟨by kernel_rfl, fun w' hw => by go_simp⟩) ⟨HA3.out.b0.c0, HA3.out.b0.c1, HA3.out.b1.c0, HA3.out.b1.c1⟩ trivial ?_
              refine anyT_take (i := 6) (n := 4) (v := .agg #[(.slice pa3 RV.length qa3), (.slice pb3 RV.length qb3)]) rfl (by decide) (by kernel_rfl) (by kernel_rfl) (by kernel_rfl) (fun _ _ _ h => h) (Or.inl ⟨by kernel_rfl, fun w' hw => by go_simp⟩) ⟨HA3.out.b0.c0, HA3.out.b0.c1, HA3.out.b1.c0, HA3.out.b1.c1⟩ trivial ?_
              refine anyT_take (i := 7) (n := 3) (v := .bool ok) rfl (by decide) (by kernel_rfl) (by kernel_rfl) (by kernel_rfl) (fun _ _ _ h => h) (Or.inl ⟨by kernel_rfl, fun w' hw => by go_simp⟩) ⟨HA3.out.b0.c0, HA3.out.b0.c1, HA3.out.b1.c0, HA3.out.b1.c1⟩ trivial ?_
              refine anyK_all (n := 2) (rs := [8]) (by kernel_rfl) (by simp) (fun i hi => ?_)
              simp only [List.mem_cons, List.not_mem_nil, or_false] at hi
              obtain rfl := hi
              refine wpOp_step rfl (fun K' hK => ?_)
              go_simp
              have hb : Below v3.heap.size v3 (v3.alloc (.cells #[.slice none 0 0, .slice none 0 0] 29)) := (Below.refl _ _).alloc (Nat.le_refl _) _
              have hne : Value.ownBlock (.slice pa3 RV.length qa3) ≠ some v3.heap.size ∧ Value.ownBlock (.slice pb3 RV.length qb3) ≠ some v3.heap.size := ⟨fun e => by have := (HR3.out.1.val.lt _ e).2; omega, fun e => by have := (HR3.out.1.cha.lt _ e).2; omega⟩
              have HA4 := Lib.hid (HA3.out.all hb)
              have HBB4 := Lib.hid (bthen HBB3.out hb)
              have Hl14 := Lib.hid (And.intro (Hl13.out.1.below hb) (Hl13.out.2.below hb))
              have Hl24 := Lib.hid (And.intro (Hl23.out.1.below hb) (Hl23.out.2.below hb))
              have HR4 := Lib.hid (And.intro (HR3.out.1.below hb) HR3.out.2)
              have HX4 := Lib.hid (And.intro (C2.new v3 29 (.slice none 0 0) (.slice none 0 0)) (show wB.heap.size ≤ v3.heap.size from HBB3.out.size))
              have HN4 := Lib.hid hne
              clear hne
              refine hK _ _ ⟨fun _ _ => ⟨HA4.out.b0.c0, HA4.out.b0.c1, HA4.out.b1.c0, HA4.out.b1.c1⟩, trivial, ?_⟩
              clear hK hb
              obtain ⟨v4, hw⟩ : ∃ w', v3.alloc (.cells #[.slice none 0 0, .slice none 0 0] 29) = w' := ⟨_, rfl⟩
              obtain ⟨bb4, hbb⟩ : ∃ b, v3.heap.size = b := ⟨_, rfl⟩
              rw [hw] at HA4 HBB4 HX4 Hl14 Hl24 HR4
              rw [hbb] at HX4 HN4
              rw [hw, hbb]
              clear hw hbb
              obtain ⟨y0, y1, y2, y3, y4⟩ := HX4.out.1
              refine anyK_all (n := 1) (rs := [9]) (by kernel_rfl) (by simp) (fun i hi => ?_)
              simp only [List.mem_cons, List.not_mem_nil, or_false] at hi
              obtain rfl := hi
              refine wpOp_step rfl (fun K' hK => ?_)
              go_simp
              have HJC := Lib.hid (JlC.store HX4.out.1 HR4.out.1 HBB4.out HX4.out.2 HN4.out.1 HN4.out.2)
              have HAZ := Lib.hid (HB.out.all HJC.out.bel)
              refine hK _ _ ⟨fun _ _ => ⟨HAZ.out.b0.c0, HAZ.out.b0.c1, HAZ.out.b1.c0, HAZ.out.b1.c1⟩, trivial, ?_⟩
              clear hK y0 y1 y2 y3 y4
              refine anyK_all (n := 0) (rs := [10]) (by kernel_rfl) (by simp) (fun i hi => ?_)
              simp only [List.mem_cons, List.not_mem_nil, or_false] at hi
              obtain rfl := hi
              refine wpOp_step rfl (fun K' hK => ?_)
              go_simp
              refine hK _ _ ⟨fun h => absurd rfl h, trivial, ?_⟩
              clear hK
              refine ⟨by kernel_rfl, ?_⟩
              go_wp2_with fail
              go_meet
              exact ⟨_, _, _, rfl, rfl, HJC⟩

            · refine wpOp_step rfl (fun K' hK => ?_)
              go_simp
              have hb : Below v2.heap.size v2 (v2.alloc (.cells #[.slice none 0 0, .slice none 0 0] 29)) := (Below.refl _ _).alloc (Nat.le_refl _) _
              have HA5 := Lib.hid (HA2.out.all hb)
              have HBB5 := Lib.hid (bthen HBB2.out hb)
              have Hl15 := Lib.hid (And.intro (Hl12.out.1.below hb) (Hl12.out.2.below hb))
              have Hl25 := Lib.hid (And.intro (Hl22.out.1.below hb) (Hl22.out.2.below hb))
              have HX5 := Lib.hid (And.intro (C2.new v2 29 (.slice none 0 0) (.slice none 0 0)) (show wB.heap.size ≤ v2.heap.size from HBB2.out.size))
              refine hK _ _ ⟨fun _ _ => ⟨HA5.out.b0.c0, HA5.out.b0.c1, HA5.out.b1.c0, HA5.out.b1.c1⟩, trivial, ?_⟩
              clear hK hb
              obtain ⟨v5, hw⟩ : ∃ w', v2.alloc (.cells #[.slice none 0 0, .slice none 0 0] 29) = w' := ⟨_, rfl⟩
              obtain ⟨bb5, hbb⟩ : ∃ b, v2.heap.size = b := ⟨_, rfl⟩
              rw [hw] at HA5 HBB5 HX5 Hl15 Hl25
              rw [hbb] at HX5
              rw [hw, hbb]
              clear hw hbb
              refine anyK_all (n := 5) (rs := [4]) (by kernel_rfl) (by simp) (fun i hi => ?_)
              simp only [List.mem_cons, List.not_mem_nil, or_false] at hi
              obtain rfl := hi
              refine wpOp_step rfl (fun K' hK => ?_)
              go_simp
              refine (HS.out _ _ _ _ _ _ _ _ _ Hl15.out.1 Hl15.out.2 Hl25.out.1 Hl25.out.2).mono ?_
              rintro e v6 ⟨V, Cc, rfl, hl, hb⟩
              obtain ⟨pa6, qa6, rfl⟩ := own_shape hl.val
              obtain ⟨pb6, qb6, rfl⟩ := own_shape hl.cha
              have hne : (Value.slice pa6 RV.length qa6).ownBlock ≠ some bb5 ∧ (Value.slice pb6 RV.length qb6).ownBlock ≠ some bb5 := ⟨fun e => by have := (hl.val.lt _ e).1; have := HX5.out.1.lt; omega, fun e => by have := (hl.cha.lt _ e).1; have := HX5.out.1.lt; omega⟩
              have HA6 := Lib.hid (HA5.out.all hb)
              have HBB6 := Lib.hid (bthen HBB5.out hb)
              have HX6 := Lib.hid (And.intro (HX5.out.1.all hb) HX5.out.2)
              have Hl16 := Lib.hid (And.intro (Hl15.out.1.below hb) (Hl15.out.2.below hb))
              have Hl26 := Lib.hid (And.intro (Hl25.out.1.below hb) (Hl25.out.2.below hb))
              have HR6 := Lib.hid (And.intro (hl.mono HBB5.out.size) hne)
              refine hK _ _ ⟨fun _ _ => ⟨HA6.out.b0.c0, HA6.out.b0.c1, HA6.out.b1.c0, HA6.out.b1.c1⟩, trivial, ?_⟩
              clear hK hl hb hne
              refine anyT_take (i := 5) (n := 4) (v := .tuple #[.agg #[(.slice pa6 RV.length qa6), (.slice pb6 RV.length qb6)], .bool ok]) rfl (by decide) (by kernel_rfl) (by kernel_rfl) (by kernel_rfl) (fun _ _ _ h => h) (Or.inl ⟨by kernel_rfl, fun w' hw => by go_simp⟩) ⟨HA6.out.b0.c0, HA6.out.b0.c1, HA6.out.b1.c0, HA6.out.b1.c1⟩ trivial ?_
              refine anyT_take (i := 6) (n := 3) (v := .agg #[(.slice pa6 RV.length qa6), (.slice pb6 RV.length qb6)]) rfl (by decide) (by kernel_rfl) (by kernel_rfl) (by kernel_rfl) (fun _ _ _ h => h) (Or.inl ⟨by kernel_rfl, fun w' hw => by go_simp⟩) ⟨HA6.out.b0.c0, HA6.out.b0.c1, HA6.out.b1.c0, HA6.out.b1.c1⟩ trivial ?_
              refine anyT_take (i := 7) (n := 2) (v := .bool ok) rfl (by decide) (by kernel_rfl) (by kernel_rfl) (by kernel_rfl) (fun _ _ _ h => h) (Or.inl ⟨by kernel_rfl, fun w' hw => by go_simp⟩) ⟨HA6.out.b0.c0, HA6.out.b0.c1, HA6.out.b1.c0, HA6.out.b1.c1⟩ trivial ?_
              obtain ⟨y0, y1, y2, y3, y4⟩ := HX6.out.1
              refine anyK_all (n := 1) (rs := [9]) (by kernel_rfl) (by simp) (fun i hi => ?_)
              simp only [List.mem_cons, List.not_mem_nil, or_false] at hi
              obtain rfl := hi
              refine wpOp_step rfl (fun K' hK => ?_)
              go_simp
              have HJC := Lib.hid (JlC.store HX6.out.1 HR6.out.1 HBB6.out HX6.out.2 HR6.out.2.1 HR6.out.2.2)
              have HAZ := Lib.hid (HB.out.all HJC.out.bel)
              refine hK _ _ ⟨fun _ _ => ⟨HAZ.out.b0.c0, HAZ.out.b0.c1, HAZ.out.b1.c0, HAZ.out.b1.c1⟩, trivial, ?_⟩
              clear hK y0 y1 y2 y3 y4
              refine anyK_all (n := 0) (rs := [10]) (by kernel_rfl) (by simp) (fun i hi => ?_)
              simp only [List.mem_cons, List.not_mem_nil, or_false] at hi
              obtain rfl := hi
              refine wpOp_step rfl (fun K' hK => ?_)
              go_simp
              refine hK _ _ ⟨fun h => absurd rfl h, trivial, ?_⟩
              clear hK
              refine ⟨by kernel_rfl, ?_⟩
              go_wp2_with fail
              go_meet
              exact ⟨_, _, _, rfl, rfl, HJC⟩

          · refine wpOp_step rfl (fun K' hK => ?_)
            go_simp
            have hb : Below v1.heap.size v1 (v1.alloc (.cells #[.slice none 0 0, .slice none 0 0] 29)) := (Below.refl _ _).alloc (Nat.le_refl _) _
            have HA7 := Lib.hid (HA1.out.all hb)
            have HBB7 := Lib.hid (bthen HBB1.out hb)
            have Hl17 := Lib.hid (And.intro (Hl11.out.1.below hb) (Hl11.out.2.below hb))
            have HX7 := Lib.hid (And.intro (C2.new v1 29 (.slice none 0 0) (.slice none 0 0)) (show wB.heap.size ≤ v1.heap.size from HBB1.out.size))
            refine hK _ _ ⟨fun _ _ => ⟨HA7.out.b0.c0, HA7.out.b0.c1, HA7.out.b1.c0, HA7.out.b1.c1⟩, trivial, ?_⟩
            clear hK hb
            obtain ⟨v7, hw⟩ : ∃ w', v1.alloc (.cells #[.slice none 0 0, .slice none 0 0] 29) = w' := ⟨_, rfl⟩
            obtain ⟨bb7, hbb⟩ : ∃ b, v1.heap.size = b := ⟨_, rfl⟩
            rw [hw] at HA7 HBB7 HX7 Hl17
            rw [hbb] at HX7
            rw [hw, hbb]
            clear hw hbb
            refine anyK_all (n := 6) (rs := [3]) (by kernel_rfl) (by simp) (fun i hi => ?_)
            simp only [List.mem_cons, List.not_mem_nil, or_false] at hi
            obtain rfl := hi
            refine wpOp_step rfl (fun K' hK => ?_)
            go_simp
            refine (HT2.out _ _ _ _ _ HA7.out.y1 HA7.out.y2).mono ?_
            rintro e v8 ⟨e8, f8, g8, h8, rfl, hl, hb⟩
            have HA8 := Lib.hid (HA7.out.all hb)
            have HBB8 := Lib.hid (bthen HBB7.out hb)
            have HX8 := Lib.hid (And.intro (HX7.out.1.all hb) HX7.out.2)
            have Hl18 := Lib.hid (And.intro (Hl17.out.1.below hb) (Hl17.out.2.below hb))
            have Hl28 := Lib.hid hl.ints
            refine hK _ _ ⟨fun _ _ => ⟨HA8.out.b0.c0, HA8.out.b0.c1, HA8.out.b1.c0, HA8.out.b1.c1⟩, trivial, ?_⟩
            clear hK hl hb
            refine anyK_all (n := 5) (rs := [4]) (by kernel_rfl) (by simp) (fun i hi => ?_)
            simp only [List.mem_cons, List.not_mem_nil, or_false] at hi
            obtain rfl := hi
            refine wpOp_step rfl (fun K' hK => ?_)
            go_simp
            refine (HS.out _ _ _ _ _ _ _ _ _ Hl18.out.1 Hl18.out.2 Hl28.out.1 Hl28.out.2).mono ?_
            rintro e v9 ⟨V, Cc, rfl, hl, hb⟩
            obtain ⟨pa9, qa9, rfl⟩ := own_shape hl.val
            obtain ⟨pb9, qb9, rfl⟩ := own_shape hl.cha
            have hne : (Value.slice pa9 RV.length qa9).ownBlock ≠ some bb7 ∧ (Value.slice pb9 RV.length qb9).ownBlock ≠ some bb7 := ⟨fun e => by have := (hl.val.lt _ e).1; have := HX8.out.1.lt; omega, fun e => by have := (hl.cha.lt _ e).1; have := HX8.out.1.lt; omega⟩
            have HA9 := Lib.hid (HA8.out.all hb)
            have HBB9 := Lib.hid (bthen HBB8.out hb)
            have HX9 := Lib.hid (And.intro (HX8.out.1.all hb) HX8.out.2)
            have Hl19 := Lib.hid (And.intro (Hl18.out.1.below hb) (Hl18.out.2.below hb))
            have Hl29 := Lib.hid (And.intro (Hl28.out.1.below hb) (Hl28.out.2.below hb))
            have HR9 := Lib.hid (And.intro (hl.mono HBB8.out.size) hne)
            refine hK _ _ ⟨fun _ _ => ⟨HA9.out.b0.c0, HA9.out.b0.c1, HA9.out.b1.c0, HA9.out.b1.c1⟩, trivial, ?_⟩
            clear hK hl hb hne
            refine anyT_take (i := 5) (n := 4) (v := .tuple #[.agg #[(.slice pa9 RV.length qa9), (.slice pb9 RV.length qb9)], .bool ok]) rfl (by decide) (by kernel_rfl) (by kernel_rfl) (by kernel_rfl) (fun _ _ _ h => h) (Or.inl ⟨by kernel_rfl, fun w' hw => by go_simp⟩) ⟨HA9.out.b0.c0, HA9.out.b0.c1, HA9.out.b1.c0, HA9.out.b1.c1⟩ trivial ?_
            refine anyT_take (i := 6) (n := 3) (v := .agg #[(.slice pa9 RV.length qa9), (.slice pb9 RV.length qb9)]) rfl (by decide) (by kernel_rfl) (by kernel_rfl) (by kernel_rfl) (fun _ _ _ h => h) (Or.inl ⟨by kernel_rfl, fun w' hw => by go_simp⟩) ⟨HA9.out.b0.c0, HA9.out.b0.c1, HA9.out.b1.c0, HA9.out.b1.c1⟩ trivial ?_
            refine anyT_take (i := 7) (n := 2) (v := .bool ok) rfl (by decide) (by kernel_rfl) (by kernel_rfl) (by kernel_rfl) (fun _ _ _ h => h) (Or.inl ⟨by kernel_rfl, fun w' hw => by go_simp⟩) ⟨HA9.out.b0.c0, HA9.out.b0.c1, HA9.out.b1.c0, HA9.out.b1.c1⟩ trivial ?_
            obtain ⟨y0, y1, y2, y3, y4⟩ := HX9.out.1
            refine anyK_all (n := 1) (rs := [9]) (by kernel_rfl) (by simp) (fun i hi => ?_)
            simp only [List.mem_cons, List.not_mem_nil, or_false] at hi
            obtain rfl := hi
            refine wpOp_step rfl (fun K' hK => ?_)
            go_simp
            have HJC := Lib.hid (JlC.store HX9.out.1 HR9.out.1 HBB9.out HX9.out.2 HR9.out.2.1 HR9.out.2.2)
            have HAZ := Lib.hid (HB.out.all HJC.out.bel)
            refine hK _ _ ⟨fun _ _ => ⟨HAZ.out.b0.c0, HAZ.out.b0.c1, HAZ.out.b1.c0, HAZ.out.b1.c1⟩, trivial, ?_⟩
            clear hK y0 y1 y2 y3 y4
            refine anyK_all (n := 0) (rs := [10]) (by kernel_rfl) (by simp) (fun i hi => ?_)
            simp only [List.mem_cons, List.not_mem_nil, or_false] at hi
            obtain rfl := hi
            refine wpOp_step rfl (fun K' hK => ?_)
            go_simp
            refine hK _ _ ⟨fun h => absurd rfl h, trivial, ?_⟩
            clear hK
            refine ⟨by kernel_rfl, ?_⟩
            go_wp2_with fail
            go_meet
            exact ⟨_, _, _, rfl, rfl, HJC⟩

        · refine wpOp_step rfl (fun K' hK => ?_)
          go_simp
          have hb : Below wD0.heap.size wD0 (wD0.alloc (.cells #[.slice none 0 0, .slice none 0 0] 29)) := (Below.refl _ _).alloc (Nat.le_refl _) _
          have HA10 := Lib.hid (HA0.out.all hb)
          have HBB10 := Lib.hid (bthen HBB0.out hb)
          have HX10 := Lib.hid (And.intro (C2.new wD0 29 (.slice none 0 0) (.slice none 0 0)) (show wB.heap.size ≤ wD0.heap.size from HBB0.out.size))
          refine hK _ _ ⟨fun _ _ => ⟨HA10.out.b0.c0, HA10.out.b0.c1, HA10.out.b1.c0, HA10.out.b1.c1⟩, trivial, ?_⟩
          clear hK hb
          obtain ⟨v10, hw⟩ : ∃ w', wD0.alloc (.cells #[.slice none 0 0, .slice none 0 0] 29) = w' := ⟨_, rfl⟩
          obtain ⟨bb10, hbb⟩ : ∃ b, wD0.heap.size = b := ⟨_, rfl⟩
          rw [hw] at HA10 HBB10 HX10
          rw [hbb] at HX10
          rw [hw, hbb]
          clear hw hbb
          refine anyK_all (n := 7) (rs := [1]) (by kernel_rfl) (by simp) (fun i hi => ?_)
          simp only [List.mem_cons, List.not_mem_nil, or_false] at hi
          obtain rfl := hi
          refine wpOp_step rfl (fun K' hK => ?_)
          go_simp
          refine (HT1.out _ _ _ _ _ HA10.out.x1 HA10.out.x2).mono ?_
          rintro e v11 ⟨e11, f11, g11, h11, rfl, hl, hb⟩
          have HA11 := Lib.hid (HA10.out.all hb)
          have HBB11 := Lib.hid (bthen HBB10.out hb)
          have HX11 := Lib.hid (And.intro (HX10.out.1.all hb) HX10.out.2)
          have Hl111 := Lib.hid hl.ints
          refine hK _ _ ⟨fun _ _ => ⟨HA11.out.b0.c0, HA11.out.b0.c1, HA11.out.b1.c0, HA11.out.b1.c1⟩, trivial, ?_⟩
          clear hK hl hb
          refine anyK_all (n := 6) (rs := [3]) (by kernel_rfl) (by simp) (fun i hi => ?_)
          simp only [List.mem_cons, List.not_mem_nil, or_false] at hi
          obtain rfl := hi
          refine wpOp_step rfl (fun K' hK => ?_)
          go_simp
          refine (HT2.out _ _ _ _ _ HA11.out.y1 HA11.out.y2).mono ?_
          rintro e v12 ⟨e12, f12, g12, h12, rfl, hl, hb⟩
          have HA12 := Lib.hid (HA11.out.all hb)
          have HBB12 := Lib.hid (bthen HBB11.out hb)
          have HX12 := Lib.hid (And.intro (HX11.out.1.all hb) HX11.out.2)
          have Hl112 := Lib.hid (And.intro (Hl111.out.1.below hb) (Hl111.out.2.below hb))
          have Hl212 := Lib.hid hl.ints
          refine hK _ _ ⟨fun _ _ => ⟨HA12.out.b0.c0, HA12.out.b0.c1, HA12.out.b1.c0, HA12.out.b1.c1⟩, trivial, ?_⟩
          clear hK hl hb
          refine anyK_all (n := 5) (rs := [4]) (by kernel_rfl) (by simp) (fun i hi => ?_)
          simp only [List.mem_cons, List.not_mem_nil, or_false] at hi
          obtain rfl := hi
          refine wpOp_step rfl (fun K' hK => ?_)
          go_simp
          refine (HS.out _ _ _ _ _ _ _ _ _ Hl112.out.1 Hl112.out.2 Hl212.out.1 Hl212.out.2).mono ?_
          rintro e v13 ⟨V, Cc, rfl, hl, hb⟩
          obtain ⟨pa13, qa13, rfl⟩ := own_shape hl.val
          obtain ⟨pb13, qb13, rfl⟩ := own_shape hl.cha
          have hne : (Value.slice pa13 RV.length qa13).ownBlock ≠ some bb10 ∧ (Value.slice pb13 RV.length qb13).ownBlock ≠ some bb10 := ⟨fun e => by have := (hl.val.lt _ e).1; have := HX12.out.1.lt; omega, fun e => by have := (hl.cha.lt _ e).1; have := HX12.out.1.lt; omega⟩
          have HA13 := Lib.hid (HA12.out.all hb)
          have HBB13 := Lib.hid (bthen HBB12.out hb)
          have HX13 := Lib.hid (And.intro (HX12.out.1.all hb) HX12.out.2)
          have Hl113 := Lib.hid (And.intro (Hl112.out.1.below hb) (Hl112.out.2.below hb))
          have Hl213 := Lib.hid (And.intro (Hl212.out.1.below hb) (Hl212.out.2.below hb))
          have HR13 := Lib.hid (And.intro (hl.mono HBB12.out.size) hne)
          refine hK _ _ ⟨fun _ _ => ⟨HA13.out.b0.c0, HA13.out.b0.c1, HA13.out.b1.c0, HA13.out.b1.c1⟩, trivial, ?_⟩
          clear hK hl hb hne
          refine anyT_take (i := 5) (n := 4) (v := .tuple #[.agg #[(.slice pa13 RV.length qa13), (.slice pb13 RV.length qb13)], .bool ok]) rfl (by decide) (by kernel_rfl) (by kernel_rfl) (by kernel_rfl) (fun _ _ _ h => h) (Or.inl ⟨by kernel_rfl, fun w' hw => by go_simp⟩) ⟨HA13.out.b0.c0, HA13.out.b0.c1, HA13.out.b1.c0, HA13.out.b1.c1⟩ trivial ?_
          refine anyT_take (i := 6) (n := 3) (v := .agg #[(.slice pa13 RV.length qa13), (.slice pb13 RV.length qb13)]) rfl (by decide) (by kernel_rfl) (by kernel_rfl) (by kernel_rfl) (fun _ _ _ h => h) (Or.inl ⟨by kernel_rfl, fun w' hw => by go_simp⟩) ⟨HA13.out.b0.c0, HA13.out.b0.c1, HA13.out.b1.c0, HA13.out.b1.c1⟩ trivial ?_
          refine anyT_take (i := 7) (n := 2) (v := .bool ok) rfl (by decide) (by kernel_rfl) (by kernel_rfl) (by kernel_rfl) (fun _ _ _ h => h) (Or.inl ⟨by kernel_rfl, fun w' hw => by go_simp⟩) ⟨HA13.out.b0.c0, HA13.out.b0.c1, HA13.out.b1.c0, HA13.out.b1.c1⟩ trivial ?_
          obtain ⟨y0, y1, y2, y3, y4⟩ := HX13.out.1
          refine anyK_all (n := 1) (rs := [9]) (by kernel_rfl) (by simp) (fun i hi => ?_)
          simp only [List.mem_cons, List.not_mem_nil, or_false] at hi
          obtain rfl := hi
          refine wpOp_step rfl (fun K' hK => ?_)
          go_simp
          have HJC := Lib.hid (JlC.store HX13.out.1 HR13.out.1 HBB13.out HX13.out.2 HR13.out.2.1 HR13.out.2.2)
          have HAZ := Lib.hid (HB.out.all HJC.out.bel)
          refine hK _ _ ⟨fun _ _ => ⟨HAZ.out.b0.c0, HAZ.out.b0.c1, HAZ.out.b1.c0, HAZ.out.b1.c1⟩, trivial, ?_⟩
          clear hK y0 y1 y2 y3 y4
          refine anyK_all (n := 0) (rs := [10]) (by kernel_rfl) (by simp) (fun i hi => ?_)
          simp only [List.mem_cons, List.not_mem_nil, or_false] at hi
          obtain rfl := hi
          refine wpOp_step rfl (fun K' hK => ?_)
          go_simp
          refine hK _ _ ⟨fun h => absurd rfl h, trivial, ?_⟩
          clear hK
          refine ⟨by kernel_rfl, ?_⟩
          go_wp2_with fail
          go_meet
          exact ⟨_, _, _, rfl, rfl, HJC⟩
      case rest =>
        obtain ⟨b6, V0, C0, rfl, rfl, HC0⟩ := hcut
        obtain ⟨p1, q1, rfl⟩ := own_shape HC0.out.law.val
        obtain ⟨p2, q2, rfl⟩ := own_shape HC0.out.law.cha
        have HA := Lib.hid (HB.out.all HC0.out.bel)
        have hp1 : w.heap.size + 2 ≤ wc.heap.size := by have := HA.out.b1.lt; omega
        clear x0 x1 x2 x3 x4 y0 y1 y2 y3 y4
        obtain ⟨x0, x1, x2, x3, x4⟩ := HA.out.b0
        go_wp2_with fail
        refine (HT1.out _ _ _ _ _ HA.out.x1 HA.out.x2).mono ?_
        rintro e w3 ⟨g1, k1, g2, k2, rfl, hl, hb⟩
        have hX := JlX.new hl hb 29
        have HX0 := Lib.hid hX
        have HA3 := Lib.hid (HA.out.all hX.bel)
        have hAb := HA.out.all hb
        clear x0 x1 x2 x3 x4
        obtain ⟨y0, y1, y2, y3, y4⟩ := hAb.b1
        clear hl hb hX hAb
        go_wp2_with fail
        obtain ⟨b8, hb8⟩ : ∃ b, w3.heap.size = b := ⟨_, rfl⟩
        obtain ⟨wD, hwD⟩ : ∃ w', w3.alloc (.cells #[.slice (some ⟨g1, 0, none⟩) n1 k1, .slice (some ⟨g2, 0, none⟩) m1 k2] 29) = w' := ⟨_, rfl⟩
        rw [hwD, hb8] at HX0
        rw [hwD] at HA3
        rw [hwD, hb8]
        clear hwD hb8 y0 y1 y2 y3 y4
        refine (HT2.out _ _ _ _ _ HA3.out.y1 HA3.out.y2).mono ?_
        rintro e w4 ⟨g3, k3, g4, k4, rfl, hl, hb⟩
        have hX := JlX.new hl hb 29
        have HX1 := Lib.hid hX
        have HA4 := Lib.hid (And.intro (HA3.out.all hX.bel) (HX0.out.all hX.bel))
        have hAb := HX0.out.all hb
        obtain ⟨y0, y1, y2, y3, y4⟩ := hAb.box
        clear hl hb hX hAb
        go_wp2_with fail
        obtain ⟨b9, hb9⟩ : ∃ b, w4.heap.size = b := ⟨_, rfl⟩
        obtain ⟨wE, hwE⟩ : ∃ w', w4.alloc (.cells #[.slice (some ⟨g3, 0, none⟩) n2 k3, .slice (some ⟨g4, 0, none⟩) m2 k4] 29) = w' := ⟨_, rfl⟩
        rw [hwE, hb9] at HX1
        rw [hwE] at HA4
        rw [hwE, hb9]
        clear hwE hb9 y0 y1 y2 y3 y4
        refine (HI.out _ _ _ _ _ _ _ _ _ HA4.out.2.law.ints.1 HA4.out.2.law.ints.2 HX1.out.law.ints.1 HX1.out.law.ints.2).mono ?_
        rintro e w5 ⟨V3, C3, rfl, hl, hb⟩
        obtain ⟨p3, q3, rfl⟩ := own_shape hl.val
        obtain ⟨p4, q4, rfl⟩ := own_shape hl.cha
        have hG := JlC.new hl hb 29
        have hC5 := (HC0.out.all (bthen HX0.out.bel (bthen HX1.out.bel hG.bel)))
        have HF := Lib.hid (show JlH w (.slice a1 n1 c1) (.slice a2 m1 c2) (.slice u1 n2 d1) (.slice u2 m2 d2) a1 a2 u1 u2 n1 m1 n2 m2 vs fs us gs wc.heap.size wE.heap.size b6 w5.heap.size (.slice p1 RV.length q1) (.slice p2 RV.length q2) (.slice p3 RV.length q3) (.slice p4 RV.length q4) RV RF RV RF (w5.alloc (.cells #[.slice p3 RV.length q3, .slice p4 RV.length q4] 29)) from
          ⟨HA4.out.1.all hG.bel, hC5.box, hC5.law.mono HB.out.bel.size, hG.box, hG.law, HC0.out.hi.1, HC0.out.hi.2.1, HC0.out.hi.2.2, hG.lo, hG.nv, hG.nc, hp1, Nat.le_trans HX0.out.bel.size HX1.out.bel.size⟩)
        have HXX := Lib.hid (And.intro (HA4.out.2.all hG.bel) (HX1.out.all hG.bel))
        have HRG := Lib.hid (And.intro HX0.out.rng (And.intro HX0.out.lo (And.intro HX1.out.rng HX1.out.lo)))
        have hAb := (HC0.out.all (bthen HX0.out.bel (bthen HX1.out.bel hb)))
        obtain ⟨y0, y1, y2, y3, y4⟩ := hAb.box
        clear hl hb hG hC5 hAb HA4 HX0 HX1 HA3 HA
        go_wp2_with fail
        obtain ⟨b10, hb10⟩ : ∃ b, w5.heap.size = b := ⟨_, rfl⟩
        obtain ⟨wF, hwF⟩ : ∃ w', w5.alloc (.cells #[.slice p3 RV.length q3, .slice p4 RV.length q4] 29) = w' := ⟨_, rfl⟩
        rw [hwF, hb10] at HF
        rw [hwF] at HXX
        rw [hwF, hb10]
        clear hwF hb10 y0 y1 y2 y3 y4
        refine (eqLaw_same _ _ _ _ _ _ RV RF _ (by omega) HF.out.gl HF.out.wl).mono ?_
        rintro e w6 ⟨rfl, hb⟩
        have H6 := Lib.hid (And.intro (HF.out.all hb) (And.intro (HXX.out.1.all hb) (HXX.out.2.all hb)))
        clear hb HF HXX
        go_wp2_with fail
        have HY7 := Lib.hid (And.intro (H6.out.1.all (Below.refl _ w6).drew) (And.intro (H6.out.2.1.all (Below.refl _ w6).drew) (H6.out.2.2.all (Below.refl _ w6).drew)))
        have hS7 : w6.drew.cell? ⟨b8, 0, none⟩ = some (.slice (some ⟨g1, 0, none⟩) n1 k1) ∧ w6.drew.cell? ⟨b8, 1, none⟩ = some (.slice (some ⟨g2, 0, none⟩) m1 k2) ∧ w6.drew.cell? ⟨w.heap.size, 0, none⟩ = some (.slice a1 n1 c1) ∧ w6.drew.cell? ⟨w.heap.size, 1, none⟩ = some (.slice a2 m1 c2) := ⟨HY7.out.2.1.box.c0, HY7.out.2.1.box.c1, HY7.out.1.a.b0.c0, HY7.out.1.a.b0.c1⟩
        refine wp_region_any (by kernel_rfl) (any_of_K (k := 4) (S := fun _ => True) (T := fun w' => w'.cell? ⟨b8, 0, none⟩ = some (.slice (some ⟨g1, 0, none⟩) n1 k1) ∧ w'.cell? ⟨b8, 1, none⟩ = some (.slice (some ⟨g2, 0, none⟩) m1 k2) ∧ w'.cell? ⟨w.heap.size, 0, none⟩ = some (.slice a1 n1 c1) ∧ w'.cell? ⟨w.heap.size, 1, none⟩ = some (.slice a2 m1 c2)) _ _ _ _ ?_)
        refine anyT_take (i := 0) (n := 4) (v := .agg #[.slice (some ⟨g1, 0, none⟩) n1 k1, .slice (some ⟨g2, 0, none⟩) m1 k2]) rfl (by decide) (by kernel_rfl) (by kernel_rfl) (by kernel_rfl) (fun _ _ _ h => h) (Or.inl ⟨by kernel_rfl, fun w' hw => by (obtain ⟨z0, z1, z2, z3⟩ := hw; go_simp)⟩) trivial hS7 ?_
        refine anyT_take (i := 1) (n := 3) (v := .agg #[(.slice a1 n1 c1), (.slice a2 m1 c2)]) rfl (by decide) (by kernel_rfl) (by kernel_rfl) (by kernel_rfl) (fun _ _ _ h => h) (Or.inl ⟨by kernel_rfl, fun w' hw => by (obtain ⟨z0, z1, z2, z3⟩ := hw; go_simp)⟩) trivial hS7 ?_
        refine anyK_all (n := 2) (rs := [2]) (by kernel_rfl) (by simp) (fun i hi => ?_)
        simp only [List.mem_cons, List.not_mem_nil, or_false] at hi
        obtain rfl := hi
        refine wpOp_step rfl (fun K' hK => ?_)
        go_simp
        refine (HT1.out _ _ _ _ _ HY7.out.1.a.x1 HY7.out.1.a.x2).mono ?_
        rintro e wy7 ⟨ea7, fa7, ga7, ha7, rfl, hl, hb⟩
        have HZ7 := Lib.hid (And.intro (HY7.out.1.all hb) (And.intro (HY7.out.2.1.all hb) (And.intro (HY7.out.2.2.all hb) hl.ints)))
        refine hK _ _ ⟨fun _ _ => trivial, ⟨HZ7.out.2.1.box.c0, HZ7.out.2.1.box.c1, HZ7.out.1.a.b0.c0, HZ7.out.1.a.b0.c1⟩, ?_⟩
        clear hK hl hb hS7
        refine anyK_all (n := 1) (rs := [3]) (by kernel_rfl) (by simp) (fun i hi => ?_)
        simp only [List.mem_cons, List.not_mem_nil, or_false] at hi
        obtain rfl := hi
        refine wpOp_step rfl (fun K' hK => ?_)
        go_simp
        refine (HE1.out _ _ _ _ _ _ _ _ _ HZ7.out.2.1.law.ints.1 HZ7.out.2.1.law.ints.2 HZ7.out.2.2.2.1 HZ7.out.2.2.2.2).mono ?_
        rintro e w7 ⟨rfl, hb⟩
        have H7 := Lib.hid (And.intro (HZ7.out.1.all hb) (And.intro (HZ7.out.2.1.all hb) (HZ7.out.2.2.1.all hb)))
        refine hK _ _ ⟨fun _ _ => trivial, ⟨H7.out.2.1.box.c0, H7.out.2.1.box.c1, H7.out.1.a.b0.c0, H7.out.1.a.b0.c1⟩, ?_⟩
        clear hK hb HZ7 HY7 H6
        refine anyK_all (n := 0) (rs := [4]) (by kernel_rfl) (by simp) (fun i hi => ?_)
        simp only [List.mem_cons, List.not_mem_nil, or_false] at hi
        obtain rfl := hi
        refine wpOp_step rfl (fun K' hK => ?_)
        go_simp
        refine hK _ _ ⟨fun h => absurd rfl h, ⟨H7.out.2.1.box.c0, H7.out.2.1.box.c1, H7.out.1.a.b0.c0, H7.out.1.a.b0.c1⟩, ?_⟩
        clear hK
        refine ⟨by kernel_rfl, ?_⟩
        go_wp2_with fail
        have HY8 := Lib.hid (And.intro (H7.out.1.all (Below.refl _ w7).drew) (And.intro (H7.out.2.1.all (Below.refl _ w7).drew) (H7.out.2.2.all (Below.refl _ w7).drew)))
        have hS8 : w7.drew.cell? ⟨b9, 0, none⟩ = some (.slice (some ⟨g3, 0, none⟩) n2 k3) ∧ w7.drew.cell? ⟨b9, 1, none⟩ = some (.slice (some ⟨g4, 0, none⟩) m2 k4) ∧ w7.drew.cell? ⟨w.heap.size + 1, 0, none⟩ = some (.slice u1 n2 d1) ∧ w7.drew.cell? ⟨w.heap.size + 1, 1, none⟩ = some (.slice u2 m2 d2) := ⟨HY8.out.2.2.box.c0, HY8.out.2.2.box.c1, HY8.out.1.a.b1.c0, HY8.out.1.a.b1.c1⟩
        refine wp_region_any (by kernel_rfl) (any_of_K (k := 4) (S := fun _ => True) (T := fun w' => w'.cell? ⟨b9, 0, none⟩ = some (.slice (some ⟨g3, 0, none⟩) n2 k3) ∧ w'.cell? ⟨b9, 1, none⟩ = some (.slice (some ⟨g4, 0, none⟩) m2 k4) ∧ w'.cell? ⟨w.heap.size + 1, 0, none⟩ = some (.slice u1 n2 d1) ∧ w'.cell? ⟨w.heap.size + 1, 1, none⟩ = some (.slice u2 m2 d2)) _ _ _ _ ?_)
        refine anyT_take (i := 0) (n := 4) (v := .agg #[.slice (some ⟨g3, 0, none⟩) n2 k3, .slice (some ⟨g4, 0, none⟩) m2 k4]) rfl (by decide) (by kernel_rfl) (by kernel_rfl) (by kernel_rfl) (fun _ _ _ h => h) (Or.inl ⟨by kernel_rfl, fun w' hw => by (obtain ⟨z0, z1, z2, z3⟩ := hw; go_simp)⟩) trivial hS8 ?_
        refine anyT_take (i := 1) (n := 3) (v := .agg #[(.slice u1 n2 d1), (.slice u2 m2 d2)]) rfl (by decide) (by kernel_rfl) (by kernel_rfl) (by kernel_rfl) (fun _ _ _ h => h) (Or.inl ⟨by kernel_rfl, fun w' hw => by (obtain ⟨z0, z1, z2, z3⟩ := hw; go_simp)⟩) trivial hS8 ?_
        refine anyK_all (n := 2) (rs := [2]) (by kernel_rfl) (by simp) (fun i hi => ?_)
        simp only [List.mem_cons, List.not_mem_nil, or_false] at hi
        obtain rfl := hi
        refine wpOp_step rfl (fun K' hK => ?_)
        go_simp
        refine (HT2.out _ _ _ _ _ HY8.out.1.a.y1 HY8.out.1.a.y2).mono ?_
        rintro e wy8 ⟨ea8, fa8, ga8, ha8, rfl, hl, hb⟩
        have HZ8 := Lib.hid (And.intro (HY8.out.1.all hb) (And.intro (HY8.out.2.1.all hb) (And.intro (HY8.out.2.2.all hb) hl.ints)))
        refine hK _ _ ⟨fun _ _ => trivial, ⟨HZ8.out.2.2.1.box.c0, HZ8.out.2.2.1.box.c1, HZ8.out.1.a.b1.c0, HZ8.out.1.a.b1.c1⟩, ?_⟩
        clear hK hl hb hS8
        refine anyK_all (n := 1) (rs := [3]) (by kernel_rfl) (by simp) (fun i hi => ?_)
        simp only [List.mem_cons, List.not_mem_nil, or_false] at hi
        obtain rfl := hi
        refine wpOp_step rfl (fun K' hK => ?_)
        go_simp
        refine (HE2.out _ _ _ _ _ _ _ _ _ HZ8.out.2.2.1.law.ints.1 HZ8.out.2.2.1.law.ints.2 HZ8.out.2.2.2.1 HZ8.out.2.2.2.2).mono ?_
        rintro e w8 ⟨rfl, hb⟩
        have H8 := Lib.hid (And.intro (HZ8.out.1.all hb) (And.intro (HZ8.out.2.1.all hb) (HZ8.out.2.2.1.all hb)))
        refine hK _ _ ⟨fun _ _ => trivial, ⟨H8.out.2.2.box.c0, H8.out.2.2.box.c1, H8.out.1.a.b1.c0, H8.out.1.a.b1.c1⟩, ?_⟩
        clear hK hb HZ8 HY8 H7
        refine anyK_all (n := 0) (rs := [4]) (by kernel_rfl) (by simp) (fun i hi => ?_)
        simp only [List.mem_cons, List.not_mem_nil, or_false] at hi
        obtain rfl := hi
        refine wpOp_step rfl (fun K' hK => ?_)
        go_simp
        refine hK _ _ ⟨fun h => absurd rfl h, ⟨H8.out.2.2.box.c0, H8.out.2.2.box.c1, H8.out.1.a.b1.c0, H8.out.1.a.b1.c1⟩, ?_⟩
        clear hK
        refine ⟨by kernel_rfl, ?_⟩
        obtain ⟨y0, y1, y2, y3, y4⟩ := H8.out.2.1.box
        go_wp2_with fail
        refine (markLaw2_one _ _ _ _ _ _ _ _ _ _ hn1' hm1' H8.out.2.1.law).mono ?_
        rintro e w9 ⟨rfl, hk⟩
        have hr := HRG.out
        have H9 := Lib.hid (And.intro (H8.out.1.mark hk hr.1.1 hr.1.2.2.1 (by have := hr.2.2.1.2; omega) (by have := hr.2.2.1.2; omega) HZZ.out.1 HZZ.out.2.1 HZZ.out.2.2.1 HZZ.out.2.2.2) (And.intro (H8.out.2.2.box.kept2 hk (fun e => by injection e; omega) (fun e => by injection e; omega))
          (show Law2 w9 wD.heap.size g3 g4 k3 k4 n2 m2 us gs from ⟨hk.own H8.out.2.2.law.val (Or.inr (fun e => by simp only [Value.ownBlock, Option.some.injEq] at e; omega)) (Or.inr (fun e => by simp only [Value.ownBlock, Option.some.injEq] at e; omega)), hk.own H8.out.2.2.law.cha (Or.inr (fun e => by simp only [Value.ownBlock, Option.some.injEq] at e; omega)) (Or.inr (fun e => by simp only [Value.ownBlock, Option.some.injEq] at e; omega)), H8.out.2.2.law.ne⟩)))
        clear hk hr y0 y1 y2 y3 y4 H8
        obtain ⟨y0, y1, y2, y3, y4⟩ := H9.out.2.1
        obtain ⟨kk, hkk⟩ : ∃ kk, 1 + n1 + m1 * 2 = kk := ⟨_, rfl⟩
        have hkb : kk ≤ 10000000 := by omega
        rw [hkk]
        clear hkk
        go_wp2_with fail
        refine (markLaw2_any _ _ _ _ _ _ _ _ _ kk _ hn2' hm2' (by omega) H9.out.2.2).mono ?_
        rintro e w10 ⟨rfl, hk⟩
        have hr := HRG.out
        have H10 := Lib.hid (H9.out.1.mark hk (by have := hr.2.2.1; omega) (by have := hr.2.2.1; omega) hr.2.2.1.2.1 hr.2.2.1.2.2.2.1 HZZ.out.1 HZZ.out.2.1 HZZ.out.2.2.1 HZZ.out.2.2.2)
        clear hk hr y0 y1 y2 y3 y4 H9
        obtain ⟨k9, hk9⟩ : ∃ k9, kk + n2 + m2 * 2 = k9 := ⟨_, rfl⟩
        rw [hk9]
        have hk90 : ¬ (k9 : Int) < 0 := by omega
        clear hk9
        obtain ⟨y0, y1, y2, y3, y4⟩ := H10.out.wb
        obtain ⟨z0, z1, z2, z3, z4⟩ := H10.out.gb
        go_wp2_with fail
        refine (eqLaw_same _ _ _ _ _ _ RV RF _ (by omega) H10.out.gl H10.out.wl).mono ?_
        rintro e w11 ⟨rfl, hb⟩
        have H11 := Lib.hid (H10.out.all hb)
        clear hb y0 y1 y2 y3 y4 z0 z1 z2 z3 z4 H10
        obtain ⟨z0, z1, z2, z3, z4⟩ := H11.out.gb
        go_wp2_with fail
        refine (markLaw_one _ _ _ RV RF _ (by omega) H11.out.gl).mono ?_
        rintro e w12 ⟨rfl, hm, hk⟩
        have H12 := Lib.hid (H11.out.markG hk hm HZZ.out.1 HZZ.out.2.1 HZZ.out.2.2.1 HZZ.out.2.2.2)
        clear hm hk z0 z1 z2 z3 z4 H11
        obtain ⟨N, hN⟩ : ∃ N, RV.length = N := ⟨_, rfl⟩
        obtain ⟨Q, hQ⟩ : ∃ Q, 1 + N + N * 2 = Q := ⟨_, rfl⟩
        have HQ := Lib.hid (fun (w' : World) (h : LawAt w' wE.heap.size (.slice p3 N q3) (.slice p4 N q4) (marks 1 N) (marks (1 + N) (N * 2))) => heldLaw_one _ _ _ N w' (by omega) h)
        rw [hQ] at HQ
        have HN := Lib.hid hN
        rw [hN] at H12 ⊢
        rw [hQ]
        have hQ0 : ¬ (Q : Int) < 0 := by omega
        clear hN hQ
        obtain ⟨z0, z1, z2, z3, z4⟩ := H12.out.gb
        go_wp2_with fail
        refine (HQ.out _ H12.out.gl).mono ?_
        rintro e wG ⟨rfl, hb⟩
        have H13 := Lib.hid (H12.out.all hb)
        clear hb z0 z1 z2 z3 z4 H12
        obtain ⟨x0, x1, x2, x3, x4⟩ := H13.out.a.b0
        obtain ⟨y0, y1, y2, y3, y4⟩ := H13.out.a.b1
        go_wp2_with fail
        go_cut [15, 16] (fun v15 v16 wd => ∃ (b15 : Nat) (V4 C4 : Value), v15 = .pointer (some ⟨b15, 0, none⟩) ∧ v16 = .bool ok ∧ Hid (JlC wG wd b15 V4 C4 RV RF))
        case first =>
          have HA0 := Lib.hid ((H13.out.a).all (Below.refl _ wG).drew)
          have hS : wG.drew.cell? ⟨w.heap.size, 0, none⟩ = some (.slice a1 n1 c1) ∧ wG.drew.cell? ⟨w.heap.size, 1, none⟩ = some (.slice a2 m1 c2) ∧ wG.drew.cell? ⟨w.heap.size + 1, 0, none⟩ = some (.slice u1 n2 d1) ∧ wG.drew.cell? ⟨w.heap.size + 1, 1, none⟩ = some (.slice u2 m2 d2) := ⟨HA0.out.b0.c0, HA0.out.b0.c1, HA0.out.b1.c0, HA0.out.b1.c1⟩
          have HBB0 := Lib.hid ((Below.refl wG.heap.size wG).drew)
          refine wp_region_any (by kernel_rfl) (any_of_K (k := 10) (S := fun w' => w'.cell? ⟨w.heap.size, 0, none⟩ = some (.slice a1 n1 c1) ∧ w'.cell? ⟨w.heap.size, 1, none⟩ = some (.slice a2 m1 c2) ∧ w'.cell? ⟨w.heap.size + 1, 0, none⟩ = some (.slice u1 n2 d1) ∧ w'.cell? ⟨w.heap.size + 1, 1, none⟩ = some (.slice u2 m2 d2)) (T := fun _ => True) _ _ _ _ ?_)
          change anyK _ _ _ _ _ _ _ _ _ _ (World.drew wG)
          obtain ⟨wD0, hwD0⟩ : ∃ w', wG.drew = w' := ⟨_, rfl⟩
          rw [hwD0] at HA0 HBB0 hS ⊢
          clear hwD0
          refine anyK_take (i := 0) (n := 10) (v := .agg #[.slice a1 n1 c1, .slice a2 m1 c2]) rfl rfl (by kernel_rfl) (by kernel_rfl) (by kernel_rfl) (by kernel_rfl) (by kernel_rfl) (fun _ _ _ h => h) (Or.inl ⟨by kernel_rfl, fun w' hw => by (obtain ⟨z0, z1, z2, z3⟩ := hw; go_simp)⟩) hS trivial ?_
          refine anyK_take (i := 2) (n := 9) (v := .agg #[.slice u1 n2 d1, .slice u2 m2 d2]) rfl rfl (by kernel_rfl) (by kernel_rfl) (by kernel_rfl) (by kernel_rfl) (by kernel_rfl) (fun _ _ _ h => h) (Or.inl ⟨by kernel_rfl, fun w' hw => by (obtain ⟨z0, z1, z2, z3⟩ := hw; go_simp)⟩) hS trivial ?_
          refine anyK_all (n := 8) (rs := [1, 8]) (by kernel_rfl) (by simp) (fun i hi => ?_)
          simp only [List.mem_cons, List.not_mem_nil, or_false] at hi
          rcases hi with rfl | rfl
          · refine wpOp_step rfl (fun K' hK => ?_)
            go_simp
            refine (HT1.out _ _ _ _ _ HA0.out.x1 HA0.out.x2).mono ?_
            rintro e v14 ⟨e14, f14, g14, h14, rfl, hl, hb⟩
            have HA14 := Lib.hid (HA0.out.all hb)
            have HBB14 := Lib.hid (bthen HBB0.out hb)
            have Hl114 := Lib.hid hl.ints
            refine hK _ _ ⟨fun _ _ => ⟨HA14.out.b0.c0, HA14.out.b0.c1, HA14.out.b1.c0, HA14.out.b1.c1⟩, trivial, ?_⟩
            clear hK hl hb
            refine anyK_all (n := 7) (rs := [3, 8]) (by kernel_rfl) (by simp) (fun i hi => ?_)
            simp only [List.mem_cons, List.not_mem_nil, or_false] at hi
            rcases hi with rfl | rfl
            · refine wpOp_step rfl (fun K' hK => ?_)
              go_simp
              refine (HT2.out _ _ _ _ _ HA14.out.y1 HA14.out.y2).mono ?_
              rintro e v15 ⟨e15, f15, g15, h15, rfl, hl, hb⟩
              have HA15 := Lib.hid (HA14.out.all hb)
              have HBB15 := Lib.hid (bthen HBB14.out hb)
              have Hl115 := Lib.hid (And.intro (Hl114.out.1.below hb) (Hl114.out.2.below hb))
              have Hl215 := Lib.hid hl.ints
              refine hK _ _ ⟨fun _ _ => ⟨HA15.out.b0.c0, HA15.out.b0.c1, HA15.out.b1.c0, HA15.out.b1.c1⟩, trivial, ?_⟩
              clear hK hl hb
              refine anyK_all (n := 6) (rs := [4, 8]) (by kernel_rfl) (by simp) (fun i hi => ?_)
              simp only [List.mem_cons, List.not_mem_nil, or_false] at hi
              rcases hi with rfl | rfl
              · refine wpOp_step rfl (fun K' hK => ?_)
                go_simp
                refine (HI.out _ _ _ _ _ _ _ _ _ Hl115.out.1 Hl115.out.2 Hl215.out.1 Hl215.out.2).mono ?_
                rintro e v16 ⟨V, Cc, rfl, hl, hb⟩
                obtain ⟨pa16, qa16, rfl⟩ := own_shape hl.val
                obtain ⟨pb16, qb16, rfl⟩ := own_shape hl.cha
                have HA16 := Lib.hid (HA15.out.all hb)
                have HBB16 := Lib.hid (bthen HBB15.out hb)
                have Hl116 := Lib.hid (And.intro (Hl115.out.1.below hb) (Hl115.out.2.below hb))
                have Hl216 := Lib.hid (And.intro (Hl215.out.1.below hb) (Hl215.out.2.below hb))
                have HR16 := Lib.hid (And.intro (hl.mono HBB15.out.size) trivial)
                refine hK _ _ ⟨fun _ _ => ⟨HA16.out.b0.c0, HA16.out.b0.c1, HA16.out.b1.c0, HA16.out.b1.c1⟩, trivial, ?_⟩
                clear hK hl hb
                refine anyT_take (i := 5) (n := 5) (v := .tuple #[.agg #[(.slice pa16 RV.length qa16), (.slice pb16 RV.length qb16)], .bool ok]) rfl (by decide) (by kernel_rfl) (by kernel_rfl) (by kernel_rfl) (fun _ _ _ h => h) (Or.inl ⟨by kernel_rfl, fun w' hw => by go_simp⟩) ⟨HA16.out.b0.c0, HA16.out.b0.c1, HA16.out.b1.c0, HA16.out.b1.c1⟩ trivial ?_
                refine anyT_take (i := 6) (n := 4) (v := .agg #[(.slice pa16 RV.length qa16), (.slice pb16 RV.length qb16)]) rfl (by decide) (by kernel_rfl) (by kernel_rfl) (by kernel_rfl) (fun _ _ _ h => h) (Or.inl ⟨by kernel_rfl, fun w' hw => by go_simp⟩) ⟨HA16.out.b0.c0, HA16.out.b0.c1, HA16.out.b1.c0, HA16.out.b1.c1⟩ trivial ?_
                refine anyT_take (i := 7) (n := 3) (v := .bool ok) rfl (by decide) (by kernel_rfl) (by kernel_rfl) (by kernel_rfl) (fun _ _ _ h => h) (Or.inl ⟨by kernel_rfl, fun w' hw => by go_simp⟩) ⟨HA16.out.b0.c0, HA16.out.b0.c1, HA16.out.b1.c0, HA16.out.b1.c1⟩ trivial ?_
                refine anyK_all (n := 2) (rs := [8]) (by kernel_rfl) (by simp) (fun i hi => ?_)
                simp only [List.mem_cons, List.not_mem_nil, or_false] at hi
                obtain rfl := hi
                refine wpOp_step rfl (fun K' hK => ?_)
                go_simp
                have hb : Below v16.heap.size v16 (v16.alloc (.cells #[.slice none 0 0, .slice none 0 0] 29)) := (Below.refl _ _).alloc (Nat.le_refl _) _
                have hne : Value.ownBlock (.slice pa16 RV.length qa16) ≠ some v16.heap.size ∧ Value.ownBlock (.slice pb16 RV.length qb16) ≠ some v16.heap.size := ⟨fun e => by have := (HR16.out.1.val.lt _ e).2; omega, fun e => by have := (HR16.out.1.cha.lt _ e).2; omega⟩
                have HA17 := Lib.hid (HA16.out.all hb)
                have HBB17 := Lib.hid (bthen HBB16.out hb)
                have Hl117 := Lib.hid (And.intro (Hl116.out.1.below hb) (Hl116.out.2.below hb))
                have Hl217 := Lib.hid (And.intro (Hl216.out.1.below hb) (Hl216.out.2.below hb))
                have HR17 := Lib.hid (And.intro (HR16.out.1.below hb) HR16.out.2)
                have HX17 := Lib.hid (And.intro (C2.new v16 29 (.slice none 0 0) (.slice none 0 0)) (show wG.heap.size ≤ v16.heap.size from HBB16.out.size))
                have HN17 := Lib.hid hne
                clear hne
                refine hK _ _ ⟨fun _ _ => ⟨HA17.out.b0.c0, HA17.out.b0.c1, HA17.out.b1.c0, HA17.out.b1.c1⟩, trivial, ?_⟩
                clear hK hb
                obtain ⟨v17, hw⟩ : ∃ w', v16.alloc (.cells #[.slice none 0 0, .slice none 0 0] 29) = w' := ⟨_, rfl⟩
                obtain ⟨bb17, hbb⟩ : ∃ b, v16.heap.size = b := ⟨_, rfl⟩
                rw [hw] at HA17 HBB17 HX17 Hl117 Hl217 HR17
                rw [hbb] at HX17 HN17
                rw [hw, hbb]
                clear hw hbb
                obtain ⟨y0, y1, y2, y3, y4⟩ := HX17.out.1
                refine anyK_all (n := 1) (rs := [9]) (by kernel_rfl) (by simp) (fun i hi => ?_)
                simp only [List.mem_cons, List.not_mem_nil, or_false] at hi
                obtain rfl := hi
                refine wpOp_step rfl (fun K' hK => ?_)
                go_simp
                have HJC := Lib.hid (JlC.store HX17.out.1 HR17.out.1 HBB17.out HX17.out.2 HN17.out.1 HN17.out.2)
                have HAZ := Lib.hid (H13.out.a.all HJC.out.bel)
                refine hK _ _ ⟨fun _ _ => ⟨HAZ.out.b0.c0, HAZ.out.b0.c1, HAZ.out.b1.c0, HAZ.out.b1.c1⟩, trivial, ?_⟩
                clear hK y0 y1 y2 y3 y4
                refine anyK_all (n := 0) (rs := [10]) (by kernel_rfl) (by simp) (fun i hi => ?_)
                simp only [List.mem_cons, List.not_mem_nil, or_false] at hi
                obtain rfl := hi
                refine wpOp_step rfl (fun K' hK => ?_)
                go_simp
                refine hK _ _ ⟨fun h => absurd rfl h, trivial, ?_⟩
                clear hK
                refine ⟨by kernel_rfl, ?_⟩
                go_wp2_with fail
                go_meet
                exact ⟨_, _, _, rfl, rfl, HJC⟩

              · refine wpOp_step rfl (fun K' hK => ?_)
                go_simp
                have hb : Below v15.heap.size v15 (v15.alloc (.cells #[.slice none 0 0, .slice none 0 0] 29)) := (Below.refl _ _).alloc (Nat.le_refl _) _
                have HA18 := Lib.hid (HA15.out.all hb)
                have HBB18 := Lib.hid (bthen HBB15.out hb)
                have Hl118 := Lib.hid (And.intro (Hl115.out.1.below hb) (Hl115.out.2.below hb))
                have Hl218 := Lib.hid (And.intro (Hl215.out.1.below hb) (Hl215.out.2.below hb))
                have HX18 := Lib.hid (And.intro (C2.new v15 29 (.slice none 0 0) (.slice none 0 0)) (show wG.heap.size ≤ v15.heap.size from HBB15.out.size))
                refine hK _ _ ⟨fun _ _ => ⟨HA18.out.b0.c0, HA18.out.b0.c1, HA18.out.b1.c0, HA18.out.b1.c1⟩, trivial, ?_⟩
                clear hK hb
                obtain ⟨v18, hw⟩ : ∃ w', v15.alloc (.cells #[.slice none 0 0, .slice none 0 0] 29) = w' := ⟨_, rfl⟩
                obtain ⟨bb18, hbb⟩ : ∃ b, v15.heap.size = b := ⟨_, rfl⟩
                rw [hw] at HA18 HBB18 HX18 Hl118 Hl218
                rw [hbb] at HX18
                rw [hw, hbb]
                clear hw hbb
                refine anyK_all (n := 5) (rs := [4]) (by kernel_rfl) (by simp) (fun i hi => ?_)
                simp only [List.mem_cons, List.not_mem_nil, or_false] at hi
                obtain rfl := hi
                refine wpOp_step rfl (fun K' hK => ?_)
                go_simp
                refine (HI.out _ _ _ _ _ _ _ _ _ Hl118.out.1 Hl118.out.2 Hl218.out.1 Hl218.out.2).mono ?_
                rintro e v19 ⟨V, Cc, rfl, hl, hb⟩
                obtain ⟨pa19, qa19, rfl⟩ := own_shape hl.val
                obtain ⟨pb19, qb19, rfl⟩ := own_shape hl.cha
                have hne : (Value.slice pa19 RV.length qa19).ownBlock ≠ some bb18 ∧ (Value.slice pb19 RV.length qb19).ownBlock ≠ some bb18 := ⟨fun e => by have := (hl.val.lt _ e).1; have := HX18.out.1.lt; omega, fun e => by have := (hl.cha.lt _ e).1; have := HX18.out.1.lt; omega⟩
                have HA19 := Lib.hid (HA18.out.all hb)
                have HBB19 := Lib.hid (bthen HBB18.out hb)
                have HX19 := Lib.hid (And.intro (HX18.out.1.all hb) HX18.out.2)
                have Hl119 := Lib.hid (And.intro (Hl118.out.1.below hb) (Hl118.out.2.below hb))
                have Hl219 := Lib.hid (And.intro (Hl218.out.1.below hb) (Hl218.out.2.below hb))
                have HR19 := Lib.hid (And.intro (hl.mono HBB18.out.size) hne)
                refine hK _ _ ⟨fun _ _ => ⟨HA19.out.b0.c0, HA19.out.b0.c1, HA19.out.b1.c0, HA19.out.b1.c1⟩, trivial, ?_⟩
                clear hK hl hb hne
                refine anyT_take (i := 5) (n := 4) (v := .tuple #[.agg #[(.slice pa19 RV.length qa19), (.slice pb19 RV.length qb19)], .bool ok]) rfl (by decide) (by kernel_rfl) (by kernel_rfl) (by kernel_rfl) (fun _ _ _ h => h) (Or.inl ⟨by kernel_rfl, fun w' hw => by go_simp⟩) ⟨HA19.out.b0.c0, HA19.out.b0.c1, HA19.out.b1.c0, HA19.out.b1.c1⟩ trivial ?_
                refine anyT_take (i := 6) (n := 3) (v := .agg #[(.slice pa19 RV.length qa19), (.slice pb19 RV.length qb19)]) rfl (by decide) (by kernel_rfl) (by kernel_rfl) (by kernel_rfl) (fun _ _ _ h => h) (Or.inl ⟨by kernel_rfl, fun w' hw => by go_simp⟩) ⟨HA19.out.b0.c0, HA19.out.b0.c1, HA19.out.b1.c0, HA19.out.b1.c1⟩ trivial ?_
                refine anyT_take (i := 7) (n := 2) (v := .bool ok) rfl (by decide) (by kernel_rfl) (by kernel_rfl) (by kernel_rfl) (fun _ _ _ h => h) (Or.inl ⟨by kernel_rfl, fun w' hw => by go_simp⟩) ⟨HA19.out.b0.c0, HA19.out.b0.c1, HA19.out.b1.c0, HA19.out.b1.c1⟩ trivial ?_
                obtain ⟨y0, y1, y2, y3, y4⟩ := HX19.out.1
                refine anyK_all (n := 1) (rs := [9]) (by kernel_rfl) (by simp) (fun i hi => ?_)
                simp only [List.mem_cons, List.not_mem_nil, or_false] at hi
                obtain rfl := hi
                refine wpOp_step rfl (fun K' hK => ?_)
                go_simp
                have HJC := Lib.hid (JlC.store HX19.out.1 HR19.out.1 HBB19.out HX19.out.2 HR19.out.2.1 HR19.out.2.2)
                have HAZ := Lib.hid (H13.out.a.all HJC.out.bel)
                refine hK _ _ ⟨fun _ _ => ⟨HAZ.out.b0.c0, HAZ.out.b0.c1, HAZ.out.b1.c0, HAZ.out.b1.c1⟩, trivial, ?_⟩
                clear hK y0 y1 y2 y3 y4
                refine anyK_all (n := 0) (rs := [10]) (by kernel_rfl) (by simp) (fun i hi => ?_)
                simp only [List.mem_cons, List.not_mem_nil, or_false] at hi
                obtain rfl := hi
                refine wpOp_step rfl (fun K' hK => ?_)
                go_simp
                refine hK _ _ ⟨fun h => absurd rfl h, trivial, ?_⟩
                clear hK
                refine ⟨by kernel_rfl, ?_⟩
                go_wp2_with fail
                go_meet
                exact ⟨_, _, _, rfl, rfl, HJC⟩

            · refine wpOp_step rfl (fun K' hK => ?_)
              go_simp
              have hb : Below v14.heap.size v14 (v14.alloc (.cells #[.slice none 0 0, .slice none 0 0] 29)) := (Below.refl _ _).alloc (Nat.le_refl _) _
              have HA20 := Lib.hid (HA14.out.all hb)
              have HBB20 := Lib.hid (bthen HBB14.out hb)
              have Hl120 := Lib.hid (And.intro (Hl114.out.1.below hb) (Hl114.out.2.below hb))
              have HX20 := Lib.hid (And.intro (C2.new v14 29 (.slice none 0 0) (.slice none 0 0)) (show wG.heap.size ≤ v14.heap.size from HBB14.out.size))
              refine hK _ _ ⟨fun _ _ => ⟨HA20.out.b0.c0, HA20.out.b0.c1, HA20.out.b1.c0, HA20.out.b1.c1⟩, trivial, ?_⟩
              clear hK hb
              obtain ⟨v20, hw⟩ : ∃ w', v14.alloc (.cells #[.slice none 0 0, .slice none 0 0] 29) = w' := ⟨_, rfl⟩
              obtain ⟨bb20, hbb⟩ : ∃ b, v14.heap.size = b := ⟨_, rfl⟩
              rw [hw] at HA20 HBB20 HX20 Hl120
              rw [hbb] at HX20
              rw [hw, hbb]
              clear hw hbb
              refine anyK_all (n := 6) (rs := [3]) (by kernel_rfl) (by simp) (fun i hi => ?_)
              simp only [List.mem_cons, List.not_mem_nil, or_false] at hi
              obtain rfl := hi
              refine wpOp_step rfl (fun K' hK => ?_)
              go_simp
              refine (HT2.out _ _ _ _ _ HA20.out.y1 HA20.out.y2).mono ?_
              rintro e v21 ⟨e21, f21, g21, h21, rfl, hl, hb⟩
              have HA21 := Lib.hid (HA20.out.all hb)
              have HBB21 := Lib.hid (bthen HBB20.out hb)
              have HX21 := Lib.hid (And.intro (HX20.out.1.all hb) HX20.out.2)
              have Hl121 := Lib.hid (And.intro (Hl120.out.1.below hb) (Hl120.out.2.below hb))
              have Hl221 := Lib.hid hl.ints
              refine hK _ _ ⟨fun _ _ => ⟨HA21.out.b0.c0, HA21.out.b0.c1, HA21.out.b1.c0, HA21.out.b1.c1⟩, trivial, ?_⟩
              clear hK hl hb
              refine anyK_all (n := 5) (rs := [4]) (by kernel_rfl) (by simp) (fun i hi => ?_)
              simp only [List.mem_cons, List.not_mem_nil, or_false] at hi
              obtain rfl := hi
              refine wpOp_step rfl (fun K' hK => ?_)
              go_simp
              refine (HI.out _ _ _ _ _ _ _ _ _ Hl121.out.1 Hl121.out.2 Hl221.out.1 Hl221.out.2).mono ?_
              rintro e v22 ⟨V, Cc, rfl, hl, hb⟩
              obtain ⟨pa22, qa22, rfl⟩ := own_shape hl.val
              obtain ⟨pb22, qb22, rfl⟩ := own_shape hl.cha
              have hne : (Value.slice pa22 RV.length qa22).ownBlock ≠ some bb20 ∧ (Value.slice pb22 RV.length qb22).ownBlock ≠ some bb20 := ⟨fun e => by have := (hl.val.lt _ e).1; have := HX21.out.1.lt; omega, fun e => by have := (hl.cha.lt _ e).1; have := HX21.out.1.lt; omega⟩
              have HA22 := Lib.hid (HA21.out.all hb)
              have HBB22 := Lib.hid (bthen HBB21.out hb)
              have HX22 := Lib.hid (And.intro (HX21.out.1.all hb) HX21.out.2)
              have Hl122 := Lib.hid (And.intro (Hl121.out.1.below hb) (Hl121.out.2.below hb))
              have Hl222 := Lib.hid (And.intro (Hl221.out.1.below hb) (Hl221.out.2.below hb))
              have HR22 := Lib.hid (And.intro (hl.mono HBB21.out.size) hne)
              refine hK _ _ ⟨fun _ _ => ⟨HA22.out.b0.c0, HA22.out.b0.c1, HA22.out.b1.c0, HA22.out.b1.c1⟩, trivial, ?_⟩
              clear hK hl hb hne
              refine anyT_take (i := 5) (n := 4) (v := .tuple #[.agg #[(.slice pa22 RV.length qa22), (.slice pb22 RV.length qb22)], .bool ok]) rfl (by decide) (by kernel_rfl) (by kernel_rfl) (by kernel_rfl) (fun _ _ _ h => h) (Or.inl ⟨by kernel_rfl, fun w' hw => by go_simp⟩) ⟨HA22.out.b0.c0, HA22.out.b0.c1, HA22.out.b1.c0, HA22.out.b1.c1⟩ trivial ?_
              refine anyT_take (i := 6) (n := 3) (v := .agg #[(.slice pa22 RV.length qa22), (.slice pb22 RV.length qb22)]) rfl (by decide) (by kernel_rfl) (by kernel_rfl) (by kernel_rfl) (fun _ _ _ h => h) (Or.inl ⟨by kernel_rfl, fun w' hw => by go_simp⟩) ⟨HA22.out.b0.c0, HA22.out.b0.c1, HA22.out.b1.c0, HA22.out.b1.c1⟩ trivial ?_
              refine anyT_take (i := 7) (n := 2) (v := .bool ok) rfl (by decide) (by kernel_rfl) (by kernel_rfl) (by kernel_rfl) (fun _ _ _ h => h) (Or.inl ⟨by kernel_rfl, fun w' hw => by go_simp⟩) ⟨HA22.out.b0.c0, HA22.out.b0.c1, HA22.out.b1.c0, HA22.out.b1.c1⟩ trivial ?_
              obtain ⟨y0, y1, y2, y3, y4⟩ := HX22.out.1
              refine anyK_all (n := 1) (rs := [9]) (by kernel_rfl) (by simp) (fun i hi => ?_)
              simp only [List.mem_cons, List.not_mem_nil, or_false] at hi
              obtain rfl := hi
              refine wpOp_step rfl (fun K' hK => ?_)
              go_simp
              have HJC := Lib.hid (JlC.store HX22.out.1 HR22.out.1 HBB22.out HX22.out.2 HR22.out.2.1 HR22.out.2.2)
              have HAZ := Lib.hid (H13.out.a.all HJC.out.bel)
              refine hK _ _ ⟨fun _ _ => ⟨HAZ.out.b0.c0, HAZ.out.b0.c1, HAZ.out.b1.c0, HAZ.out.b1.c1⟩, trivial, ?_⟩
              clear hK y0 y1 y2 y3 y4
              refine anyK_all (n := 0) (rs := [10]) (by kernel_rfl) (by simp) (fun i hi => ?_)
              simp only [List.mem_cons, List.not_mem_nil, or_false] at hi
              obtain rfl := hi
              refine wpOp_step rfl (fun K' hK => ?_)
              go_simp
              refine hK _ _ ⟨fun h => absurd rfl h, trivial, ?_⟩
              clear hK
              refine ⟨by kernel_rfl, ?_⟩
              go_wp2_with fail
              go_meet
              exact ⟨_, _, _, rfl, rfl, HJC⟩

          · refine wpOp_step rfl (fun K' hK => ?_)
            go_simp
            have hb : Below wD0.heap.size wD0 (wD0.alloc (.cells #[.slice none 0 0, .slice none 0 0] 29)) := (Below.refl _ _).alloc (Nat.le_refl _) _
            have HA23 := Lib.hid (HA0.out.all hb)
            have HBB23 := Lib.hid (bthen HBB0.out hb)
            have HX23 := Lib.hid (And.intro (C2.new wD0 29 (.slice none 0 0) (.slice none 0 0)) (show wG.heap.size ≤ wD0.heap.size from HBB0.out.size))
            refine hK _ _ ⟨fun _ _ => ⟨HA23.out.b0.c0, HA23.out.b0.c1, HA23.out.b1.c0, HA23.out.b1.c1⟩, trivial, ?_⟩
            clear hK hb
            obtain ⟨v23, hw⟩ : ∃ w', wD0.alloc (.cells #[.slice none 0 0, .slice none 0 0] 29) = w' := ⟨_, rfl⟩
            obtain ⟨bb23, hbb⟩ : ∃ b, wD0.heap.size = b := ⟨_, rfl⟩
            rw [hw] at HA23 HBB23 HX23
            rw [hbb] at HX23
            rw [hw, hbb]
            clear hw hbb
            refine anyK_all (n := 7) (rs := [1]) (by kernel_rfl) (by simp) (fun i hi => ?_)
            simp only [List.mem_cons, List.not_mem_nil, or_false] at hi
            obtain rfl := hi
            refine wpOp_step rfl (fun K' hK => ?_)
            go_simp
            refine (HT1.out _ _ _ _ _ HA23.out.x1 HA23.out.x2).mono ?_
            rintro e v24 ⟨e24, f24, g24, h24, rfl, hl, hb⟩
            have HA24 := Lib.hid (HA23.out.all hb)
            have HBB24 := Lib.hid (bthen HBB23.out hb)
            have HX24 := Lib.hid (And.intro (HX23.out.1.all hb) HX23.out.2)
            have Hl124 := Lib.hid hl.ints
            refine hK _ _ ⟨fun _ _ => ⟨HA24.out.b0.c0, HA24.out.b0.c1, HA24.out.b1.c0, HA24.out.b1.c1⟩, trivial, ?_⟩
            clear hK hl hb
            refine anyK_all (n := 6) (rs := [3]) (by kernel_rfl) (by simp) (fun i hi => ?_)
            simp only [List.mem_cons, List.not_mem_nil, or_false] at hi
            obtain rfl := hi
            refine wpOp_step rfl (fun K' hK => ?_)
            go_simp
            refine (HT2.out _ _ _ _ _ HA24.out.y1 HA24.out.y2).mono ?_
            rintro e v25 ⟨e25, f25, g25, h25, rfl, hl, hb⟩
            have HA25 := Lib.hid (HA24.out.all hb)
            have HBB25 := Lib.hid (bthen HBB24.out hb)
            have HX25 := Lib.hid (And.intro (HX24.out.1.all hb) HX24.out.2)
            have Hl125 := Lib.hid (And.intro (Hl124.out.1.below hb) (Hl124.out.2.below hb))
            have Hl225 := Lib.hid hl.ints
            refine hK _ _ ⟨fun _ _ => ⟨HA25.out.b0.c0, HA25.out.b0.c1, HA25.out.b1.c0, HA25.out.b1.c1⟩, trivial, ?_⟩
            clear hK hl hb
            refine anyK_all (n := 5) (rs := [4]) (by kernel_rfl) (by simp) (fun i hi => ?_)
            simp only [List.mem_cons, List.not_mem_nil, or_false] at hi
            obtain rfl := hi
            refine wpOp_step rfl (fun K' hK => ?_)
            go_simp
            refine (HI.out _ _ _ _ _ _ _ _ _ Hl125.out.1 Hl125.out.2 Hl225.out.1 Hl225.out.2).mono ?_
            rintro e v26 ⟨V, Cc, rfl, hl, hb⟩
            obtain ⟨pa26, qa26, rfl⟩ := own_shape hl.val
            obtain ⟨pb26, qb26, rfl⟩ := own_shape hl.cha
            have hne : (Value.slice pa26 RV.length qa26).ownBlock ≠ some bb23 ∧ (Value.slice pb26 RV.length qb26).ownBlock ≠ some bb23 := ⟨fun e => by have := (hl.val.lt _ e).1; have := HX25.out.1.lt; omega, fun e => by have := (hl.cha.lt _ e).1; have := HX25.out.1.lt; omega⟩
            have HA26 := Lib.hid (HA25.out.all hb)
            have HBB26 := Lib.hid (bthen HBB25.out hb)
            have HX26 := Lib.hid (And.intro (HX25.out.1.all hb) HX25.out.2)
            have Hl126 := Lib.hid (And.intro (Hl125.out.1.below hb) (Hl125.out.2.below hb))
            have Hl226 := Lib.hid (And.intro (Hl225.out.1.below hb) (Hl225.out.2.below hb))
            have HR26 := Lib.hid (And.intro (hl.mono HBB25.out.size) hne)
            refine hK _ _ ⟨fun _ _ => ⟨HA26.out.b0.c0, HA26.out.b0.c1, HA26.out.b1.c0, HA26.out.b1.c1⟩, trivial, ?_⟩
            clear hK hl hb hne
            refine anyT_take (i := 5) (n := 4) (v := .tuple #[.agg #[(.slice pa26 RV.length qa26), (.slice pb26 RV.length qb26)], .bool ok]) rfl (by decide) (by kernel_rfl) (by kernel_rfl) (by kernel_rfl) (fun _ _ _ h => h) (Or.inl ⟨by kernel_rfl, fun w' hw => by go_simp⟩) ⟨HA26.out.b0.c0, HA26.out.b0.c1, HA26.out.b1.c0, HA26.out.b1.c1⟩ trivial ?_
            refine anyT_take (i := 6) (n := 3) (v := .agg #[(.slice pa26 RV.length qa26), (.slice pb26 RV.length qb26)]) rfl (by decide) (by kernel_rfl) (by kernel_rfl) (by kernel_rfl) (fun _ _ _ h => h) (Or.inl ⟨by kernel_rfl, fun w' hw => by go_simp⟩) ⟨HA26.out.b0.c0, HA26.out.b0.c1, HA26.out.b1.c0, HA26.out.b1.c1⟩ trivial ?_
            refine anyT_take (i := 7) (n := 2) (v := .bool ok) rfl (by decide) (by kernel_rfl) (by kernel_rfl) (by kernel_rfl) (fun _ _ _ h => h) (Or.inl ⟨by kernel_rfl, fun w' hw => by go_simp⟩) ⟨HA26.out.b0.c0, HA26.out.b0.c1, HA26.out.b1.c0, HA26.out.b1.c1⟩ trivial ?_
            obtain ⟨y0, y1, y2, y3, y4⟩ := HX26.out.1
            refine anyK_all (n := 1) (rs := [9]) (by kernel_rfl) (by simp) (fun i hi => ?_)
            simp only [List.mem_cons, List.not_mem_nil, or_false] at hi
            obtain rfl := hi
            refine wpOp_step rfl (fun K' hK => ?_)
            go_simp
            have HJC := Lib.hid (JlC.store HX26.out.1 HR26.out.1 HBB26.out HX26.out.2 HR26.out.2.1 HR26.out.2.2)
            have HAZ := Lib.hid (H13.out.a.all HJC.out.bel)
            refine hK _ _ ⟨fun _ _ => ⟨HAZ.out.b0.c0, HAZ.out.b0.c1, HAZ.out.b1.c0, HAZ.out.b1.c1⟩, trivial, ?_⟩
            clear hK y0 y1 y2 y3 y4
            refine anyK_all (n := 0) (rs := [10]) (by kernel_rfl) (by simp) (fun i hi => ?_)
            simp only [List.mem_cons, List.not_mem_nil, or_false] at hi
            obtain rfl := hi
            refine wpOp_step rfl (fun K' hK => ?_)
            go_simp
            refine hK _ _ ⟨fun h => absurd rfl h, trivial, ?_⟩
            clear hK
            refine ⟨by kernel_rfl, ?_⟩
            go_wp2_with fail
            go_meet
            exact ⟨_, _, _, rfl, rfl, HJC⟩
        case rest =>
          obtain ⟨b15, V4, C4, rfl, rfl, HC4⟩ := hcut
          obtain ⟨p5, q5, rfl⟩ := own_shape HC4.out.law.val
          obtain ⟨p6, q6, rfl⟩ := own_shape HC4.out.law.cha
          have H14 := Lib.hid (H13.out.all HC4.out.bel)
          rw [HN.out] at HC4
          clear x0 x1 x2 x3 x4 y0 y1 y2 y3 y4 H13
          obtain ⟨y0, y1, y2, y3, y4⟩ := H14.out.wb
          obtain ⟨z0, z1, z2, z3, z4⟩ := HC4.out.box
          try rw [HN.out]
          go_wp2_with fail
          refine (eqLaw_same _ _ _ _ _ _ RV RF _ (by omega) HC4.out.law H14.out.wl).mono ?_
          rintro e w16 ⟨rfl, hb⟩
          have H16 := Lib.hid (H14.out.all hb)
          clear hb y0 y1 y2 y3 y4 z0 z1 z2 z3 z4 H14 HC4
          obtain ⟨z0, z1, z2, z3, z4⟩ := H16.out.gb
          go_wp2_with fail
          refine (HQ.out _ H16.out.gl).mono ?_
          rintro e w17 ⟨rfl, hb⟩
          have H17 := Lib.hid (H16.out.all hb)
          clear hb z0 z1 z2 z3 z4 H16
          go_wp2
          go_ret
          exact ⟨rfl, H17.out.a.bel⟩
    · have HZ2 := Lib.hid (fun w => szLaw_no u1 u2 n2 m2 d1 d2 z w hzle hn2 hm2 (by omega))
      go_wp2_with fail
      refine (HZ2.out _).mono ?_
      rintro e w2 ⟨rfl, hb⟩
      have H2 := Lib.hid (H1.out.all hb)
      clear hb
      go_wp2
      go_ret
      exact ⟨rfl, H2.out.bel⟩
  · have HZ := Lib.hid (fun w => szLaw_no a1 a2 n1 m1 c1 c2 1048576 w (Nat.le_refl _) hn1 hm1 (by omega))
    obtain ⟨x0, x1, x2, x3, x4⟩ := H0.out.b0
    go_enter Tryz.func3, Tryz.ntmps3
    go_wp2_with fail
    refine (HZ.out _).mono ?_
    rintro e w1 ⟨rfl, hb⟩
    have H1 := Lib.hid (H0.out.all hb)
    clear hb
    go_wp2
    go_ret
    exact ⟨rfl, H1.out.bel⟩
end Go.Proofs.YtlckamnadddlmaaGreat

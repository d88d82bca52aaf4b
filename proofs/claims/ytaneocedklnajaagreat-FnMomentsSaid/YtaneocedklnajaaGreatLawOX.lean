import Derived.Test.YtaneocedklnajaaGreatOwnX
import Derived.Test.YtaneocedklnajaaGreatLawVX
import Derived.Deep.RegionHeld3
import Derived.Deep.LoopGhost
import Derived.Deep.DeepCutAuto
/- append of one two-cell element that was just laid in a block of its own: the step laws. No condition. -/
namespace Go.Proofs.YtaneocedklnajaaGreat
open Go.RowKit
set_option linter.unusedVariables false

theorem wp_ap2 {P : Program} {o : Oper} {a : Act} {w : World} {K : Act → World → Prop} {Q : Exit → Act → World → Prop} (s x : Operand) (t : TypeId)
    (ho : o.op = .call { callee := .builtin .append, args := #[s, x], argTypes := #[t, t] })
    (base : Nat) (e : TypeId) (z : Value) (bytes : Nat) (ht : P.underlying t = some (.slice e)) (hinfo : (P.info? e).map (fun i => (i.zero, i.size, i.bytes)) = some (some z, 2, bytes)) (hzs : z.cells.size = 2)
    (v : Value) (n : Nat) (xs : List Value) (hs : a.eval s = v) (hown : w.ownsRow base e 2 v n xs) (b : Nat) (u y : Value) (hx : a.eval x = .slice (some ⟨b, 0, none⟩) 1 1)
    (hu : w.cell? ⟨b, 0, none⟩ = some u) (hy : w.cell? ⟨b, 1, none⟩ = some y) (h1 : u.oneCell' = true) (h2 : y.oneCell' = true) (hn : n < 1099511627776) (hb : bytes ≤ 64) (hbase : base ≤ w.heap.size)
    (h : ∀ v' w', w'.ownsRow base e 2 v' (n + 1) (xs ++ [u, y]) → w.grownBy w' v.ownBlock → (v'.ownBlock = v.ownBlock ∨ v'.ownBlock = some w.heap.size) → K (a.put o.dst v') w') : o.wp P a w K Q := by
  obtain ⟨i, hi, hz, hsize, hby⟩ := info_parts hinfo
  have hm : (n + 1) * bytes ≤ (n + 1) * 64 := Nat.mul_le_mul_left _ hb
  obtain ⟨v', w', hr, h3, h4, _, h5⟩ := run_append_own_at (P := P) w base t o.type e i z 2 bytes ht hi hz hsize hby hzs (by omega) v n xs hown ⟨b, 0, none⟩ 1 1 [u, y] rfl
    (fun j q hj => by
      match j, hj with
      | 0, hj =>
        simp at hj
        subst hj
        simpa [Addr.add] using hu
      | 1, hj =>
        simp at hj
        subst hj
        simpa [Addr.add] using hy)
    (fun q hq => by
      simp at hq
      rcases hq with rfl | rfl
      · exact h1
      · exact h2) (by unfold maxLen; omega) (by omega) hbase
  unfold Oper.wp execOp
  simp only [ho, resolve, invoke, builtin, Sem.run_bind, Sem.run_pure, Result.andThen_ok, List.map_toArray, List.map_cons, List.map_nil, hs, hx, hr]
  exact h v' w' h3 h4 h5
theorem step_ap2 {P : Program} {ops : Array Oper} {o : Oper} {a : Act} {w : World} {K : Act → World → Prop} {Q : Exit → Act → World → Prop} {E : Prop} (hgd : o.guard = none) (s x : Operand) (t : TypeId)
    (ho : o.op = .call { callee := .builtin .append, args := #[s, x], argTypes := #[t, t] })
    (base : Nat) (e : TypeId) (z : Value) (bytes : Nat) (ht : P.underlying t = some (.slice e)) (hinfo : (P.info? e).map (fun i => (i.zero, i.size, i.bytes)) = some (some z, 2, bytes)) (hzs : z.cells.size = 2)
    (v : Value) (n : Nat) (xs : List Value) (hs : a.eval s = v) (hown : w.ownsRow base e 2 v n xs) (b : Nat) (u y : Value) (hx : a.eval x = .slice (some ⟨b, 0, none⟩) 1 1)
    (hu : w.cell? ⟨b, 0, none⟩ = some u) (hy : w.cell? ⟨b, 1, none⟩ = some y) (h1 : u.oneCell' = true) (h2 : y.oneCell' = true) (hn : n < 1099511627776) (hb : bytes ≤ 64) (hbase : base ≤ w.heap.size)
    (h : ∀ v' w', w'.ownsRow base e 2 v' (n + 1) (xs ++ [u, y]) → w.grownBy w' v.ownBlock → (v'.ownBlock = v.ownBlock ∨ v'.ownBlock = some w.heap.size) → K (a.put o.dst v') w') :
    if Region.wanted o (yielded ops a.tmps) = true then Oper.wp P o a w K Q else E := by
  rw [if_pos (by simp [Region.wanted, hgd])]
  exact wp_ap2 s x t ho base e z bytes ht hinfo hzs v n xs hs hown b u y hx hu hy h1 h2 hn hb hbase h
end Go.Proofs.YtaneocedklnajaaGreat
/- A law that grows in a box: what holds of it while it grows. No condition. -/
namespace Go.Proofs.YtaneocedklnajaaGreat
open Go.RowKit
set_option linter.unusedVariables false

/-- The values that have a chance, and the chances, of the first m counts. -/
def lvT (first : Int) (cs : List Int) : Nat → List Int
  | 0 => []
  | m + 1 => if 0 < cs.getD m 0 then lvT first cs m ++ [first + m] else lvT first cs m
def lfT (cs : List Int) (all : Nat) : Nat → List Int
  | 0 => []
  | m + 1 => if 0 < cs.getD m 0 then lfT cs all m ++ [(mkRat (cs.getD m 0) all).num, ((mkRat (cs.getD m 0) all).den : Nat)] else lfT cs all m
theorem lvT_len (first : Int) (cs : List Int) : ∀ m, (lvT first cs m).length ≤ m
  | 0 => Nat.le_refl _
  | m + 1 => by
    have := lvT_len first cs m
    rw [lvT]
    split
    · rw [List.length_append, List.length_singleton]; omega
    · omega
/-- A law in a box while it grows: V and C are in the box, V' and C' come next; the blocks K are as they were. -/
structure LO (w wr : World) (b : Nat) (K : List (Nat × Obj)) (V C V' C' : Value) (nv nc : Nat) (vs fs : List Int) : Prop where
  box : LBox wr b V C
  keep : ∀ x ∈ K, wr.heap[x.1]? = some x.2 ∧ V'.ownBlock ≠ some x.1 ∧ C'.ownBlock ≠ some x.1 ∧ x.1 ≠ b
  val : wr.ownsRow w.heap.size 2 1 V' nv (vs.map (Value.int .i64))
  cha : wr.ownsRow w.heap.size 40 2 C' nc (fs.map (Value.int .i64))
  dis : Dis V' C'
  bel : Below w.heap.size w wr
  nv : V'.ownBlock ≠ some b
  nc : C'.ownBlock ≠ some b
  hb : w.heap.size ≤ b
theorem LO.below {w wr wr' : World} {b : Nat} {K : List (Nat × Obj)} {V C V' C' : Value} {nv nc : Nat} {vs fs : List Int} (h : LO w wr b K V C V' C' nv nc vs fs) (hb : Below wr.heap.size wr wr') : LO w wr' b K V C V' C' nv nc vs fs :=
  ⟨h.box.below hb, fun x hx => ⟨(hb.block _ (lt_of_heap (h.keep x hx).1)).trans (h.keep x hx).1, (h.keep x hx).2⟩, own_below h.val hb, own_below h.cha hb, h.dis, bthen h.bel hb, h.nv, h.nc, h.hb⟩
/-- A new block is kept from now on. -/
theorem LO.also {w wr : World} {b : Nat} {K : List (Nat × Obj)} {V C V' C' : Value} {nv nc : Nat} {vs fs : List Int} (h : LO w wr b K V C V' C' nv nc vs fs) (o : Obj) : LO w (wr.alloc o) b ((wr.heap.size, o) :: K) V C V' C' nv nc vs fs := by
  have hA : Below wr.heap.size wr (wr.alloc o) := (Below.refl _ _).alloc (Nat.le_refl _) _
  have h' := h.below hA
  refine ⟨h'.box, fun x hx => ?_, h'.val, h'.cha, h'.dis, h'.bel, h'.nv, h'.nc, h'.hb⟩
  rcases List.mem_cons.1 hx with rfl | hx
  · exact ⟨heap_at_new _ _, own_ne h.val, own_ne h.cha, fun e => by have := lt_of_heap h.box; omega⟩
  · exact h'.keep x hx
theorem LO.less {w wr : World} {b : Nat} {x : Nat × Obj} {K : List (Nat × Obj)} {V C V' C' : Value} {nv nc : Nat} {vs fs : List Int} (h : LO w wr b (x :: K) V C V' C' nv nc vs fs) : LO w wr b K V C V' C' nv nc vs fs :=
  ⟨h.box, fun y hy => h.keep y (List.mem_cons_of_mem _ hy), h.val, h.cha, h.dis, h.bel, h.nv, h.nc, h.hb⟩
/-- A value was appended. -/
theorem LO.pushV {w wA w6 : World} {b : Nat} {K : List (Nat × Obj)} {V C V' C' v6 : Value} {nv nc : Nat} {vs fs : List Int} {z : Int} (h : LO w wA b K V C V' C' nv nc vs fs)
    (hown : w6.ownsRow w.heap.size 2 1 v6 (nv + 1) (vs.map (Value.int .i64) ++ [.int .i64 z])) (hg : wA.grownBy w6 V'.ownBlock) (hat : v6.ownBlock = V'.ownBlock ∨ v6.ownBlock = some wA.heap.size) :
    LO w w6 b K V C v6 C' (nv + 1) nc (vs ++ [z]) fs := by
  have hlb := lt_of_heap h.box
  have hne : ∀ k, k < wA.heap.size → V'.ownBlock ≠ some k → v6.ownBlock ≠ some k := fun k hk hn e => by
    rcases hat with e1 | e1
    · exact hn (by rw [← e1]; exact e)
    · rw [e1] at e; cases e; omega
  refine ⟨(hg.block b hlb (fun e => h.nv e.symm)).trans h.box, fun x hx => ?_, by rw [List.map_append]; exact hown, h.cha.kept hg (dis_symm h.dis), ?_, h.bel.grown hg h.bel.size (fun k hk => (h.val.lt k hk).1), hne b hlb h.nv, h.nc, h.hb⟩
  · obtain ⟨k1, k2, k3, k4⟩ := h.keep x hx
    exact ⟨(hg.block _ (lt_of_heap k1) (fun e => k2 e.symm)).trans k1, hne _ (lt_of_heap k1) k2, k3, k4⟩
  · refine dis_symm ?_
    cases hc : C'.ownBlock with
    | none => exact Or.inl hc
    | some k =>
      right
      rw [hc]
      intro e
      have hk := (h.cha.lt k hc).2
      refine hne k hk (fun e2 => ?_) e.symm
      rcases h.dis with d | d
      · rw [d] at e2; cases e2
      · exact d (by rw [e2, hc])
/-- A chance was appended. -/
theorem LO.pushC {w wA w6 : World} {b : Nat} {K : List (Nat × Obj)} {V C V' C' c6 : Value} {nv nc : Nat} {vs fs : List Int} {p q : Int} (h : LO w wA b K V C V' C' nv nc vs fs)
    (hown : w6.ownsRow w.heap.size 40 2 c6 (nc + 1) (fs.map (Value.int .i64) ++ [.int .i64 p, .int .i64 q])) (hg : wA.grownBy w6 C'.ownBlock) (hat : c6.ownBlock = C'.ownBlock ∨ c6.ownBlock = some wA.heap.size) :
    LO w w6 b K V C V' c6 nv (nc + 1) vs (fs ++ [p, q]) := by
  have hlb := lt_of_heap h.box
  have hne : ∀ k, k < wA.heap.size → C'.ownBlock ≠ some k → c6.ownBlock ≠ some k := fun k hk hn e => by
    rcases hat with e1 | e1
    · exact hn (by rw [← e1]; exact e)
    · rw [e1] at e; cases e; omega
  refine ⟨(hg.block b hlb (fun e => h.nc e.symm)).trans h.box, fun x hx => ?_, h.val.kept hg h.dis, by rw [List.map_append]; exact hown, ?_, h.bel.grown hg h.bel.size (fun k hk => (h.cha.lt k hk).1), h.nv, hne b hlb h.nc, h.hb⟩
  · obtain ⟨k1, k2, k3, k4⟩ := h.keep x hx
    exact ⟨(hg.block _ (lt_of_heap k1) (fun e => k3 e.symm)).trans k1, k2, hne _ (lt_of_heap k1) k3, k4⟩
  · cases hv : V'.ownBlock with
    | none => exact Or.inl hv
    | some k =>
      right
      rw [hv]
      intro e
      have hk := (h.val.lt k hv).2
      refine hne k hk (fun e2 => ?_) e.symm
      rcases h.dis with d | d
      · rw [d] at hv; cases hv
      · exact d (by rw [e2, hv])
/-- Both are put into the box. -/
theorem LO.store {w wA : World} {b : Nat} {K : List (Nat × Obj)} {V C V' C' : Value} {nv nc : Nat} {vs fs : List Int} (h : LO w wA b K V C V' C' nv nc vs fs) : LO w ((wA.setCell ⟨b, 0, none⟩ V').setCell ⟨b, 1, none⟩ C') b K V' C' V' C' nv nc vs fs := by
  have hg := grownBy_trans (grownBy_setCell wA ⟨b, 0, none⟩ V') (grownBy_setCell (wA.setCell ⟨b, 0, none⟩ V') ⟨b, 1, none⟩ C')
  have h1 := heap_setCell_same wA b 0 #[V, C] 29 V' h.box
  have h2 := heap_setCell_same _ b 1 _ 29 C' h1
  refine ⟨h2, fun x hx => ?_, h.val.kept hg ?_, h.cha.kept hg ?_, h.dis, (h.bel.setCell (p := ⟨b, 0, none⟩) h.hb _).setCell (p := ⟨b, 1, none⟩) h.hb _, h.nv, h.nc, h.hb⟩
  · obtain ⟨k1, k2, k3, k4⟩ := h.keep x hx
    exact ⟨(hg.block _ (lt_of_heap k1) (fun e => k4 (Option.some.inj e))).trans k1, k2, k3, k4⟩
  · cases hv : V'.ownBlock with
    | none => exact Or.inl rfl
    | some k => exact Or.inr (by rw [← hv]; exact h.nv)
  · cases hv : C'.ownBlock with
    | none => exact Or.inl rfl
    | some k => exact Or.inr (by rw [← hv]; exact h.nc)
/-- The cells of the box, and that they may be written. -/
theorem LO.cells {w wr : World} {b : Nat} {K : List (Nat × Obj)} {V C V' C' : Value} {nv nc : Nat} {vs fs : List Int} (h : LO w wr b K V C V' C' nv nc vs fs) : wr.cell? ⟨b, 0, none⟩ = some V ∧ wr.cell? ⟨b, 1, none⟩ = some C ∧ wr.frozen? ⟨b, 0, none⟩ = false ∧ wr.frozen? ⟨b, 1, none⟩ = false := by
  have := h.box
  unfold LBox at this
  exact ⟨by simp [World.cell?, this], by simp [World.cell?, this], by simp [World.frozen?, this], by simp [World.frozen?, this]⟩
theorem pair_cells {wr : World} {k t : Nat} {u v : Value} (h : wr.heap[k]? = some (.cells #[u, v] t (0, 0))) : wr.cell? ⟨k, 0, none⟩ = some u ∧ wr.cell? ⟨k, 1, none⟩ = some v ∧ wr.frozen? ⟨k, 0, none⟩ = false ∧ wr.frozen? ⟨k, 1, none⟩ = false :=
  ⟨by simp [World.cell?, h], by simp [World.cell?, h], by simp [World.frozen?, h], by simp [World.frozen?, h]⟩
theorem below_d1 (w : World) (o : Obj) : Below w.heap.size w (w.drew.alloc o) := (Below.refl _ w).drew.alloc (Nat.le_refl _) o
theorem below_d2 (w : World) (o o' : Obj) : Below w.heap.size w ((w.drew.alloc o).alloc o') := (below_d1 w o).alloc (below_d1 w o).size o'
/-- What lawOf answers. -/
def RetLw (w : World) (vs fs : List Int) (e : Ending) (w' : World) : Prop := ∃ V C, e = .returned (.agg #[V, C]) ∧ LawAt w' w.heap.size V C vs fs ∧ Below w.heap.size w w'
theorem lo_start (w : World) : LO w ((w.alloc (.cells #[.slice none 0 0, .slice none 0 0] 29)).alloc (.cells #[.slice none 0 0, .slice none 0 0] 29)) (w.heap.size + 1) [(w.heap.size, .cells #[.slice none 0 0, .slice none 0 0] 29)] (.slice none 0 0) (.slice none 0 0) (.slice none 0 0) (.slice none 0 0) 0 0 [] [] := by
  refine ⟨?_, fun x hx => ?_, ⟨rfl, Or.inl ⟨rfl, rfl⟩⟩, ⟨rfl, Or.inl ⟨rfl, rfl⟩⟩, Or.inl rfl, ((Below.refl _ w).alloc (Nat.le_refl _) _).alloc (by simp) _, by simp [Value.ownBlock], by simp [Value.ownBlock], by omega⟩
  · unfold LBox; rw [heap_alloc_if, if_pos (by simp)]
  · rw [List.mem_singleton] at hx
    subst hx
    exact ⟨by rw [heap_alloc_if, if_neg (by simp), heap_at_new], by simp [Value.ownBlock], by simp [Value.ownBlock], by show w.heap.size ≠ w.heap.size + 1; omega⟩
/-- What comes of a law in a box at a call's end, when it is put into the result's box. -/
theorem LO.give {w wA : World} {b r : Nat} {K : List (Nat × Obj)} {o : Obj} {V C : Value} {nv nc : Nat} {vs fs : List Int} (h : LO w wA b ((r, o) :: K) V C V C nv nc vs fs) (hr : w.heap.size ≤ r) (e1 : nv = vs.length) (e2 : nc = vs.length) :
    LawAt ((wA.setCell ⟨r, 0, none⟩ V).setCell ⟨r, 1, none⟩ C) w.heap.size V C vs fs ∧ Below w.heap.size w ((wA.setCell ⟨r, 0, none⟩ V).setCell ⟨r, 1, none⟩ C) := by
  subst e1
  subst e2
  have hg := grownBy_trans (grownBy_setCell wA ⟨r, 0, none⟩ V) (grownBy_setCell (wA.setCell ⟨r, 0, none⟩ V) ⟨r, 1, none⟩ C)
  obtain ⟨k1, k2, k3, k4⟩ := h.keep _ List.mem_cons_self
  refine ⟨⟨h.val.kept hg ?_, h.cha.kept hg ?_, h.dis⟩, (h.bel.setCell (p := ⟨r, 0, none⟩) hr _).setCell (p := ⟨r, 1, none⟩) hr _⟩
  · cases hv : V.ownBlock with
    | none => exact Or.inl rfl
    | some k => exact Or.inr (by rw [← hv]; exact k2)
  · cases hv : C.ownBlock with
    | none => exact Or.inl rfl
    | some k => exact Or.inr (by rw [← hv]; exact k3)
theorem Tryz.infoFr : (Tryz.prog.info? 40).map (fun i => (i.zero, i.size, i.bytes)) = some (some (.agg #[.int .i64 0, .int .i64 0]), 2, 16) := by kernel_rfl
end Go.Proofs.YtaneocedklnajaaGreat
/- The law of counts among all: the reference's. Conditions: few counts, all of them at most 10 to the power of 18. -/
namespace Go.Proofs.YtaneocedklnajaaGreat
open Go.RowKit
set_option linter.unusedVariables false

theorem LO.storeV {w wA : World} {b : Nat} {K : List (Nat × Obj)} {V C V' C' : Value} {nv nc : Nat} {vs fs : List Int} (h : LO w wA b K V C V' C' nv nc vs fs) : LO w (wA.setCell ⟨b, 0, none⟩ V') b K V' C V' C' nv nc vs fs := by
  have hg := grownBy_setCell wA ⟨b, 0, none⟩ V'
  have h1 := heap_setCell_same wA b 0 #[V, C] 29 V' h.box
  refine ⟨h1, fun x hx => ?_, h.val.kept hg ?_, h.cha.kept hg ?_, h.dis, h.bel.setCell (p := ⟨b, 0, none⟩) h.hb _, h.nv, h.nc, h.hb⟩
  · obtain ⟨k1, k2, k3, k4⟩ := h.keep x hx
    exact ⟨(hg.block _ (lt_of_heap k1) (fun e => k4 (Option.some.inj e))).trans k1, k2, k3, k4⟩
  · cases hv : V'.ownBlock with
    | none => exact Or.inl rfl
    | some k => exact Or.inr (by rw [← hv]; exact h.nv)
  · cases hv : C'.ownBlock with
    | none => exact Or.inl rfl
    | some k => exact Or.inr (by rw [← hv]; exact h.nc)
theorem LO.storeC {w wA : World} {b : Nat} {K : List (Nat × Obj)} {V C V' C' : Value} {nv nc : Nat} {vs fs : List Int} (h : LO w wA b K V C V' C' nv nc vs fs) : LO w (wA.setCell ⟨b, 1, none⟩ C') b K V C' V' C' nv nc vs fs := by
  have hg := grownBy_setCell wA ⟨b, 1, none⟩ C'
  have h1 := heap_setCell_same wA b 1 #[V, C] 29 C' h.box
  refine ⟨h1, fun x hx => ?_, h.val.kept hg ?_, h.cha.kept hg ?_, h.dis, h.bel.setCell (p := ⟨b, 1, none⟩) h.hb _, h.nv, h.nc, h.hb⟩
  · obtain ⟨k1, k2, k3, k4⟩ := h.keep x hx
    exact ⟨(hg.block _ (lt_of_heap k1) (fun e => k4 (Option.some.inj e))).trans k1, k2, k3, k4⟩
  · cases hv : V'.ownBlock with
    | none => exact Or.inl rfl
    | some k => exact Or.inr (by rw [← hv]; exact h.nv)
  · cases hv : C'.ownBlock with
    | none => exact Or.inl rfl
    | some k => exact Or.inr (by rw [← hv]; exact h.nc)
set_option maxRecDepth 100000 in
set_option maxHeartbeats 3200000 in
theorem l05Counted_any (a : Option Addr) (len cap : Nat) (cs : List Int) (all : Nat) (w : World) (hx : IsInts w a len cs) (hl : len ≤ 1000) (ha : 0 < all) (ha2 : all ≤ 1000000000000000000) (hc : ∀ i, i < len → cs.getD i 0 ≤ 1000000000000000000) :
    Calls Tryz.prog 123 #[.slice a len cap, .int .i64 (all : Nat)] w (RetLw w (lvT 0 cs len) (lfT cs all len)) := by
  have HX := Lib.hid (And.intro hx hc)
  have H0 := Lib.hid (lo_start w)
  clear hx hc
  go_enter Tryz.func123, Tryz.ntmps123
  go_wp2
  obtain ⟨b, hb⟩ : ∃ b, w.heap.size + 1 = b := ⟨_, rfl⟩
  obtain ⟨r, hr⟩ : ∃ r, w.heap.size = r := ⟨_, rfl⟩
  rw [hb, hr] at H0 ⊢
  have HB := Lib.hid (And.intro hb hr)
  clear hb hr
  go_loopw [6] (fun i wr => ∃ (m n : Nat) (V C : Value), m ≤ len ∧ n ≤ m ∧ i = .int .i64 (m : Nat) ∧ Hid (n = (lvT 0 cs m).length ∧ LO w wr b [(r, .cells #[.slice none 0 0, .slice none 0 0] 29)] V C V C n n (lvT 0 cs m) (lfT cs all m))) (fun i _ => len - (intOf i).toNat)
  case atStart => exact ⟨0, 0, _, _, Nat.zero_le _, Nat.le_refl _, rfl, Lib.hid ⟨rfl, H0.out⟩⟩
  case round =>
    clear H0
    obtain ⟨m, n, V, C, hm, hnm, rfl, HL⟩ := hrel
    obtain ⟨av, cv, rfl⟩ := own_shape HL.out.2.val
    obtain ⟨ac, cc, rfl⟩ := own_shape HL.out.2.cha
    by_cases hlt : m < len
    · obtain ⟨b1, off, rfl, hcm⟩ := (HX.out.1.below HL.out.2.bel).at hlt
      have hm0 : (0:Int) ≤ (m:Int) := by omega
      have hmi : (m:Int) < (len:Int) := by omega
      have hc2 := HX.out.2 m hlt
      obtain ⟨c, hcz⟩ : ∃ c, cs.getD m 0 = c := ⟨_, rfl⟩
      rw [hcz] at hcm hc2
      by_cases hc0 : 0 < c
      · have hv1 : lvT 0 cs (m + 1) = lvT 0 cs m ++ [(m : Int)] := by rw [lvT, hcz, if_pos hc0, Int.zero_add]
        have hf1 : lfT cs all (m + 1) = lfT cs all m ++ [(mkRat c all).num, ((mkRat c all).den : Nat)] := by rw [lfT, hcz, if_pos hc0]
        have HQ := Lib.hid (fun (w : World) => l01FMake_any c all w (by omega) (by omega) (by omega) ha)
        obtain ⟨p, hp⟩ : ∃ p, (mkRat c all).num = p := ⟨_, rfl⟩
        obtain ⟨q, hq⟩ : ∃ q : Int, (((mkRat c all).den : Nat) : Int) = q := ⟨_, rfl⟩
        rw [hp, hq] at hf1 HQ
        have HN := Lib.hid (And.intro hv1 hf1)
        have HC := Lib.hid hcz
        clear hv1 hf1 hp hq hcz
        obtain ⟨q1, q2, q3, q4⟩ := HL.out.2.cells
        have HLA := Lib.hid (HL.out.2.below ((Below.refl _ wr).alloc (Nat.le_refl _) (.cells #[.int .i64 (m : Nat)] 2)))
        obtain ⟨k1, k2, k3, k4⟩ := HLA.out.cells
        go_wp2_with (at_builtin; refine wpList_ap1 rfl (.tmp 20) (.tmp 22) 22 rfl w.heap.size 2 (.int .i64 0) 8 Tryz.underlying22 Tryz.infoI rfl _ n _ rfl HLA.out.val wr.heap.size (.int .i64 (m : Nat)) rfl (by go_simp) rfl (by omega) (by omega) HLA.out.bel.size ?_)
        intro v6 w6 hown hgrow hat
        obtain ⟨av6, cv6, rfl⟩ := own_shape hown
        have L1 := HLA.out.pushV hown hgrow (by rw [alloc_size]; exact hat)
        have HL1 := Lib.hid L1.storeV
        obtain ⟨s1, s2, s3, s4⟩ := L1.cells
        clear hown hgrow hat L1 q1 q2 q3 q4 k1 k2 k3 k4 hcm
        go_wp2_with fail
        obtain ⟨w8, hw8⟩ : ∃ w', w6.setCell ⟨b, 0, none⟩ (.slice av6 (n + 1) cv6) = w' := ⟨_, rfl⟩
        rw [hw8] at HL1 ⊢
        have HNm := Lib.hid HL.out.1
        clear hw8 HL HLA s1 s2 s3 s4
        obtain ⟨q1, q2, q3, q4⟩ := HL1.out.cells
        have hcm := (HX.out.1.below HL1.out.bel).at hlt
        obtain ⟨b2, off2, e1, hcm⟩ := hcm
        simp only [Option.some.injEq, Addr.mk.injEq] at e1
        obtain ⟨rfl, rfl, _⟩ := e1
        rw [HC.out] at hcm
        go_region_law (first
          | (go_simp; go_at_call 87; refine (HQ.out _).mono ?_; rintro e w9 ⟨rfl, hb9⟩; obtain ⟨s1, s2, s3, s4⟩ := (HL1.out.below (bthen (drewN_below _ 1) hb9)).cells; have sa : ∀ o, (w9.alloc o).cell? ⟨b, 1, none⟩ = some (.slice ac n cc) := fun o => ((HL1.out.below (bthen (drewN_below _ 1) hb9)).below ((Below.refl _ _).alloc (Nat.le_refl _) o)).cells.2.1)
          | (refine step_ap2 rfl (.tmp 26) (.tmp 33) 27 rfl w.heap.size 40 (.agg #[.int .i64 0, .int .i64 0]) 16 Tryz.underlying27 Tryz.infoFr rfl _ n _ rfl ((HL1.out.below (bthen (drewN_below _ 1) hb9)).below ((Below.refl _ w9).alloc (Nat.le_refl _) (.cells #[.int .i64 p, .int .i64 q] 40))).cha _ (.int .i64 p) (.int .i64 q) rfl (by go_simp) (by go_simp) rfl rfl (by omega) (by omega) ((HL1.out.below (bthen (drewN_below _ 1) hb9)).below ((Below.refl _ w9).alloc (Nat.le_refl _) (.cells #[.int .i64 p, .int .i64 q] 40))).bel.size ?_; intro c6 w7 hown2 hgrow2 hat2; obtain ⟨ac6, cc6, rfl⟩ := own_shape hown2; have L2 := ((HL1.out.below (bthen (drewN_below _ 1) hb9)).below ((Below.refl _ w9).alloc (Nat.le_refl _) (.cells #[.int .i64 p, .int .i64 q] 40))).pushC hown2 hgrow2 hat2; obtain ⟨t1, t2, t3, t4⟩ := L2.cells))
        all_goals
          have HL3 := Lib.hid L2.storeC
          clear L2 hown2 hgrow2 hat2 hb9 s1 s2 s3 s4 sa t1 t2 t3 t4 q1 q2 q3 q4 hcm
          go_wp2
          go_roundw
          case rel => exact ⟨m + 1, n + 1, _, _, by omega, by omega, by go_num, Lib.hid ⟨by rw [HN.out.1, List.length_append, ← HNm.out]; rfl, by rw [HN.out.1, HN.out.2]; exact HL3.out⟩⟩
          case measure => simp [intOf]; omega
      · have hv1 : lvT 0 cs (m + 1) = lvT 0 cs m := by rw [lvT, hcz, if_neg hc0]
        have hf1 : lfT cs all (m + 1) = lfT cs all m := by rw [lfT, hcz, if_neg hc0]
        have HN := Lib.hid (And.intro hv1 hf1)
        clear hv1 hf1 hcz
        go_wp2
        go_roundw
        case rel => exact ⟨m + 1, n, _, _, by omega, by omega, by go_num, Lib.hid (by rw [HN.out.1, HN.out.2]; exact HL.out)⟩
        case measure => simp [intOf]; omega
    · obtain rfl : m = len := by omega
      obtain ⟨q1, q2, q3, q4⟩ := HL.out.2.cells
      obtain ⟨r1, r2, r3, r4⟩ := pair_cells (HL.out.2.keep _ List.mem_cons_self).1
      have HG := Lib.hid (HL.out.2.give (by rw [← HB.out.2]; exact Nat.le_refl _) HL.out.1 HL.out.1)
      clear HL
      go_wp2_with fail
      refine bodyPost_ret (v := .agg #[.slice av n cv, .slice ac n cc]) (by simp [results, Tryz.results123, go_sem, *]) rfl ⟨_, _, rfl, HG.out.1, HG.out.2⟩
end Go.Proofs.YtaneocedklnajaaGreat

import Derived.Test.YtaneocedklnajaaGreatJlA
import Derived.Test.YtaneocedklnajaaGreatJlSort
import Derived.Maps.Own
import Derived.Maps.OwnOps
import Derived.Maps.OwnSet
import Derived.Maps.Views
/- What the program's sum of two laws keeps: a list of numbers that grows, a map of ratios. No condition. -/
namespace Go.Proofs.YtaneocedklnajaaGreat
open Go.RowKit Go.Maps Go.Sort
set_option linter.unusedVariables false

/-- A block whose cells are numbers of 64 bits. -/
def AllI (w : World) (g : Nat) : Prop := ∃ cur, w.heap[g]? = some (.cells cur 2 (0, 0)) ∧ ∀ u ∈ cur.toList, ∃ z, u = .int .i64 z
/-- Digits stay. -/
def Dg (w w' : World) : Prop := ∀ b o z, w.cell? ⟨b, o, none⟩ = some (.int .u32 z) → w'.cell? ⟨b, o, none⟩ = some (.int .u32 z)
theorem Dg.refl (w : World) : Dg w w := fun _ _ _ h => h
theorem Dg.trans {a b c : World} (h : Dg a b) (k : Dg b c) : Dg a c := fun _ _ _ e => k _ _ _ (h _ _ _ e)
theorem Dg.below {w w' : World} (h : Below w.heap.size w w') : Dg w w' := fun b o z e => (h.cell (p := ⟨b, o, none⟩) (World.block_lt_of_cell? w _ e)).trans e
theorem IsU32s.dg {w w' : World} {a : Option Addr} {n : Nat} {ds : List Nat} (h : IsU32s w a n ds) (hd : Dg w w') : IsU32s w' a n ds :=
  ⟨h.1, fun j hj => by
    obtain ⟨b, off, e, c⟩ := h.2 j hj
    exact ⟨b, off, e, hd _ _ _ c⟩⟩
theorem RawV.dg {w w' : World} {a1 a2 : Option Addr} {l1 l2 n d : Nat} (h : RawV w a1 a2 l1 l2 n d) (hd : Dg w w') : RawV w' a1 a2 l1 l2 n d := ⟨h.e1, h.e2, h.r1.dg hd, h.r2.dg hd⟩
theorem cell_heap {w w' : World} {b : Nat} (h : w'.heap[b]? = w.heap[b]?) (o : Nat) : w'.cell? ⟨b, o, none⟩ = w.cell? ⟨b, o, none⟩ := by
  unfold World.cell?
  simp only [h]
theorem AllI.no {w : World} {g o : Nat} {z : Int} (h : AllI w g) : w.cell? ⟨g, o, none⟩ ≠ some (.int .u32 z) := fun e => by
  obtain ⟨cur, h1, h2⟩ := h
  obtain ⟨c, e', fr, h3, h4⟩ := cells_of_cell? e
  rw [h1] at h3
  cases h3
  obtain ⟨y, hy⟩ := h2 _ (by rw [← Array.getElem?_toList] at h4; exact List.mem_of_getElem? h4)
  cases hy
theorem Dg.grown {w w' : World} {g : Nat} (hg : w.grownBy w' (some g)) (h : AllI w g) : Dg w w' := fun b o z e => by
  by_cases hb : b = g
  · subst hb; exact absurd e h.no
  · rw [cell_heap (hg.block b (World.block_lt_of_cell? w _ e) (fun h => hb (Option.some.inj h)))]; exact e
theorem Dg.map {w w' : World} {b : Nat} {es : Array MapEntry} {clock : Nat} (hb : w.heap[b]? = some (.map es clock)) (hg : w.grownBy w' (some b)) : Dg w w' := fun g o z e => by
  by_cases hn : g = b
  · subst hn
    obtain ⟨c, e', fr, h3, h4⟩ := cells_of_cell? e
    rw [hb] at h3; cases h3
  · rw [cell_heap (hg.block g (World.block_lt_of_cell? w _ e) (fun h => hn (Option.some.inj h)))]; exact e
theorem Dg.set {w : World} {p : Addr} {v : Value} (h : ∀ k z, w.cell? p ≠ some (.int k z)) : Dg w (w.setCell p v) := fun b o z e => Ints.set h b o .u32 z e

/-- A list of numbers in a block of the call's own. -/
structure OwI (w : World) (B g n cap : Nat) (xs : List Int) : Prop where
  own : w.ownsRow B 2 1 (.slice (some ⟨g, 0, none⟩) n cap) n (xs.map (Value.int .i64))
  all : AllI w g
theorem OwI.lt {w : World} {B g n cap : Nat} {xs : List Int} (h : OwI w B g n cap xs) : B ≤ g ∧ g < w.heap.size := h.own.lt g rfl
theorem AllI.below {w w' : World} {g : Nat} (h : AllI w g) (hb : Below w.heap.size w w') : AllI w' g := by
  obtain ⟨cur, h1, h2⟩ := h
  exact ⟨cur, (hb.block _ (lt_of_heap h1)).trans h1, h2⟩
theorem OwI.below {w w' : World} {B g n cap : Nat} {xs : List Int} (h : OwI w B g n cap xs) (hb : Below w.heap.size w w') : OwI w' B g n cap xs := ⟨own_below h.own hb, h.all.below hb⟩
theorem OwI.kept {w w' : World} {B g n cap : Nat} {xs : List Int} {row : Option Nat} (h : OwI w B g n cap xs) (hg : w.grownBy w' row) (hne : row ≠ some g) : OwI w' B g n cap xs := by
  refine ⟨h.own.kept hg (Or.inr fun e => hne e.symm), ?_⟩
  · obtain ⟨cur, h1, h2⟩ := h.all
    exact ⟨cur, (hg.block _ (lt_of_heap h1) (fun e => hne e.symm)).trans h1, h2⟩
theorem OwI.start (w : World) {B : Nat} (hB : B ≤ w.heap.size) : OwI (w.alloc (.cells #[] 2)) B w.heap.size 0 0 [] :=
  ⟨World.ownsRow_lit w #[] 0 hB (by decide) rfl, ⟨#[], heap_at_new w _, by simp⟩⟩
theorem wpList_apI {P : Program} {ops : Array Oper} {rest : List Oper} {o : Oper} {a : Act} {w : World} {Q : Exit → Act → World → Prop} (hgd : o.guard = none) (s x : Operand) (t : TypeId)
    (ho : o.op = .call { callee := .builtin .append, args := #[s, x], argTypes := #[t, t] })
    (B : Nat) (ht : P.underlying t = some (.slice 2)) (hinfo : (P.info? 2).map (fun i => (i.zero, i.size, i.bytes)) = some (some (.int .i64 0), 1, 8))
    (g n cap : Nat) (xs : List Int) (hs : a.eval s = .slice (some ⟨g, 0, none⟩) n cap) (hown : OwI w B g n cap xs) (b : Nat) (z : Int) (hx : a.eval x = .slice (some ⟨b, 0, none⟩) 1 1)
    (hu : w.cell? ⟨b, 0, none⟩ = some (.int .i64 z)) (hn : n < 1099511627776) (hB : B ≤ w.heap.size)
    (h : ∀ g' cap' w', OwI w' B g' (n + 1) cap' (xs ++ [z]) → w.grownBy w' (some g) → (g' = g ∨ g' = w.heap.size) → wpList P ops Q rest (a.put o.dst (.slice (some ⟨g', 0, none⟩) (n + 1) cap')) w') : wpList P ops Q (o :: rest) a w := by
  refine wpList_plain hgd fun K hK => ?_
  obtain ⟨i, hi, hz, hsize, hby⟩ := info_parts hinfo
  have hnews : ∀ j y, [Value.int .i64 z][j]? = some y → w.cell? ((⟨b, 0, none⟩ : Addr).add j) = some y := fun j y hj => by
    match j, hj with
    | 0, hj =>
      simp at hj
      subst hj
      simpa [Addr.add] using hu
  have h1c : ∀ u ∈ [Value.int .i64 z], u.oneCell' = true := by simp [Value.oneCell']
  obtain ⟨v', w', hr, h2, h3, _, h5⟩ := run_append_own_at (P := P) w B t o.type 2 i (.int .i64 0) 1 8 ht hi hz hsize hby rfl (by omega) _ n _ hown.own ⟨b, 0, none⟩ 1 1 [.int .i64 z] rfl hnews h1c (by unfold maxLen; omega) (by omega) hB
  have hall : ∃ g' cap', v' = .slice (some ⟨g', 0, none⟩) (n + 1) cap' ∧ AllI w' g' := by
    obtain ⟨hl, h0⟩ := hown.own
    rcases h0 with ⟨e0, _⟩ | ⟨g1, cap1, cur, e1, hbg, hg, hnc, hcm, hcs, htk⟩
    · cases e0
    · cases e1
      obtain ⟨cur2, hg2, hz2⟩ := hown.all
      rw [hg] at hg2
      cases hg2
      by_cases hroom : n + 1 ≤ cap
      · have hr2 := run_append_room (P := P) w t o.type 2 i ht hi g n cap cur hg ⟨b, 0, none⟩ 1 1 [.int .i64 z] (by rw [hsize]; rfl) hnews h1c hroom (by rw [hsize, hcs]; simp; omega)
        rw [hr] at hr2
        injection hr2 with e2 e3
        refine ⟨g, cap, e2, ?_⟩
        rw [e3]
        refine ⟨_, setRow_heap w g cur _ 2 _ hg, fun u hu => ?_⟩
        simp only [List.mem_append] at hu
        rcases hu with (hu | hu) | hu
        · exact hz2 u (List.mem_of_mem_take hu)
        · simp at hu; exact ⟨z, hu⟩
        · exact hz2 u (List.mem_of_mem_drop hu)
      · have holds : ∀ j u, (xs.map (Value.int .i64))[j]? = some u → w.cell? ((⟨g, 0, none⟩ : Addr).add j) = some u := hown.own.cells (g := g) rfl
        have hr2 := run_append_grow (P := P) w t o.type 2 i (.int .i64 0) ht hi hz ⟨g, 0, none⟩ n cap _ (by rw [hsize]; exact hl) holds ⟨b, 0, none⟩ 1 1 [.int .i64 z] (by rw [hsize]; rfl) hnews (by omega) (by omega) (growslice_fits (by omega) (by rw [hby]; omega))
        rw [hr] at hr2
        injection hr2 with e2 e3
        refine ⟨w.heap.size, _, e2, ?_⟩
        rw [e3]
        refine ⟨_, heap_at_new w.drew _, fun u hu => ?_⟩
        simp only [Array.toList_append, List.mem_append] at hu
        rcases hu with (hu | hu) | hu
        · obtain ⟨y, _, rfl⟩ := List.mem_map.1 hu; exact ⟨y, rfl⟩
        · simp at hu; exact ⟨z, hu⟩
        · simp [Builtin.zeroCells, Value.cells, Nat.mod_one] at hu
          exact ⟨0, hu.2.symm⟩
  obtain ⟨g', cap', rfl, hI⟩ := hall
  unfold Oper.wp execOp
  simp only [ho, resolve, invoke, builtin, Sem.run_bind, Sem.run_pure, Result.andThen_ok, List.map_toArray, List.map_cons, List.map_nil, hs, hx, hr]
  exact hK _ _ (h g' cap' w' ⟨by rw [List.map_append]; exact h2, hI⟩ h3 (by simpa [Value.ownBlock] using h5))

/-- A value that holds a ratio. -/
def RatV (w : World) (v : Value) (r : Rat) : Prop := ∃ a1 l1 c1 a2 l2 c2, v = .agg #[.bool (decide (r.num < 0)), .slice a1 l1 c1, .slice a2 l2 c2] ∧ RawV w a1 a2 l1 l2 r.num.natAbs r.den
theorem RatV.dg {w w' : World} {v : Value} {r : Rat} (h : RatV w v r) (hd : Dg w w') : RatV w' v r := by
  obtain ⟨a1, l1, c1, a2, l2, c2, e, k⟩ := h
  exact ⟨a1, l1, c1, a2, l2, c2, e, k.dg hd⟩
/-- How an element of the map reads: as itself. -/
def Rv (v : Value) : Option (DataW Value × List MemPlace) := some (.held v, [])
theorem jKeyed : Keyed Tryz.prog 2 := int_keyed Tryz.underlying2
theorem jKey {j : Int} (h1 : -9223372036854775808 ≤ j) (h2 : j ≤ 9223372036854775807) : keyOf Tryz.prog 2 (.int .i64 j) = some (.int .i64 j) := keyOf_int_mk Tryz.underlying2 (WalkArith.wf_i64 ⟨h1, h2⟩)
theorem jZero (w : World) : (zeroValue 66).run Tryz.prog w = .ok (.agg #[.bool false, .slice none 0 0, .slice none 0 0]) w := by kernel_rfl
/-- A map from numbers to ratios. -/
def MapQ (w : World) (b n : Nat) (L : List Int) (G : Int → Rat) : Prop :=
  ∃ D : DataW Value, w.ownsMap Tryz.prog 2 Rv b n D ∧ IsMap D ∧ (∀ j : Int, has D (.int .i64 j) = decide (j ∈ L)) ∧ ∀ j, j ∈ L → ∃ v, (∀ z, D.atKey (.int .i64 j) z = .held v) ∧ RatV w v (G j)
theorem MapQ.made (w : World) (G : Int → Rat) : MapQ (w.alloc (.map #[] 0)) w.heap.size 0 [] G :=
  ⟨_, World.ownsMap_made _ _ _ _, isMap_empty, fun j => by simp [has], fun j h => by simp at h⟩
theorem MapQ.heap {w : World} {b n : Nat} {L : List Int} {G : Int → Rat} (h : MapQ w b n L G) : ∃ es clock, w.heap[b]? = some (.map es clock) := by
  obtain ⟨D, ⟨es, clock, hb, _⟩, _⟩ := h
  exact ⟨es, clock, hb⟩
theorem MapQ.lt {w : World} {b n : Nat} {L : List Int} {G : Int → Rat} (h : MapQ w b n L G) : b < w.heap.size := by
  obtain ⟨es, clock, hb⟩ := h.heap
  exact lt_of_heap hb
theorem MapQ.ne {w : World} {b n B g m cap : Nat} {L xs : List Int} {G : Int → Rat} (h : MapQ w b n L G) (ho : OwI w B g m cap xs) : b ≠ g := fun e => by
  obtain ⟨es, clock, hb⟩ := h.heap
  obtain ⟨cur, hg, _⟩ := ho.all
  rw [e, hg] at hb
  cases hb
theorem MapQ.kept {w w' : World} {b n : Nat} {L : List Int} {G : Int → Rat} {row : Option Nat} (h : MapQ w b n L G) (hg : w.grownBy w' row) (hne : some b ≠ row) (hd : Dg w w') : MapQ w' b n L G := by
  obtain ⟨D, h1, h2, h3, h4⟩ := h
  refine ⟨D, h1.kept hg hne, h2, h3, fun j hj => ?_⟩
  obtain ⟨v, a, c⟩ := h4 j hj
  exact ⟨v, a, c.dg hd⟩
theorem MapQ.below {w w' : World} {b n : Nat} {L : List Int} {G : Int → Rat} (h : MapQ w b n L G) (hb : Below w.heap.size w w') : MapQ w' b n L G := by
  obtain ⟨es, clock, he⟩ := h.heap
  obtain ⟨D, ⟨es1, clock1, he1, F, hs, hD⟩, h2, h3, h4⟩ := h
  refine ⟨D, ⟨es1, clock1, (hb.block _ (lt_of_heap he1)).trans he1, F, hs, hD⟩, h2, h3, fun j hj => ?_⟩
  obtain ⟨v, a, c⟩ := h4 j hj
  exact ⟨v, a, c.dg (Dg.below hb)⟩
theorem MapQ.same {w : World} {b n : Nat} {L : List Int} {G G' : Int → Rat} (h : MapQ w b n L G) (hG : ∀ j, j ∈ L → G' j = G j) : MapQ w b n L G' := by
  obtain ⟨D, h1, h2, h3, h4⟩ := h
  refine ⟨D, h1, h2, h3, fun j hj => ?_⟩
  rw [hG j hj]
  exact h4 j hj
theorem MapQ.yes {w : World} {b n : Nat} {L : List Int} {G : Int → Rat} (h : MapQ w b n L G) {j : Int} (h1 : -9223372036854775808 ≤ j) (h2 : j ≤ 9223372036854775807) (hj : j ∈ L) :
    ∃ v, (Instr.lookup 62 (.map (some b)) (.int .i64 j) true).run Tryz.prog w = .ok (.tuple #[v, .bool true]) w ∧ (Instr.lookup 62 (.map (some b)) (.int .i64 j) false).run Tryz.prog w = .ok v w ∧ RatV w v (G j) := by
  obtain ⟨D, k1, k2, k3, k4⟩ := h
  obtain ⟨v, ha, hr⟩ := k4 j hj
  obtain ⟨v1, ps1, e1, f1⟩ := k1.look_ok jKeyed Tryz.underlying62 (jZero w) (zd := .held (.agg #[.bool false, .slice none 0 0, .slice none 0 0])) (zp := []) rfl (jKey h1 h2)
  obtain ⟨v2, ps2, e2, f2⟩ := k1.lookup jKeyed Tryz.underlying62 (jZero w) (zd := .held (.agg #[.bool false, .slice none 0 0, .slice none 0 0])) (zp := []) rfl (jKey h1 h2)
  rw [ha] at f1 f2
  unfold Rv at f1 f2
  simp only [Option.some.injEq, Prod.mk.injEq, DataW.held.injEq] at f1 f2
  rw [f1.1, k3 j, decide_eq_true hj] at e1
  rw [f2.1] at e2
  exact ⟨v, e1, e2, hr⟩
theorem MapQ.no {w : World} {b n : Nat} {L : List Int} {G : Int → Rat} (h : MapQ w b n L G) {j : Int} (h1 : -9223372036854775808 ≤ j) (h2 : j ≤ 9223372036854775807) (hj : j ∉ L) :
    (Instr.lookup 62 (.map (some b)) (.int .i64 j) true).run Tryz.prog w = .ok (.tuple #[.agg #[.bool false, .slice none 0 0, .slice none 0 0], .bool false]) w := by
  obtain ⟨D, k1, k2, k3, k4⟩ := h
  obtain ⟨v1, ps1, e1, f1⟩ := k1.look_ok jKeyed Tryz.underlying62 (jZero w) (zd := .held (.agg #[.bool false, .slice none 0 0, .slice none 0 0])) (zp := []) rfl (jKey h1 h2)
  have hn : has D (.int .i64 j) = false := by rw [k3 j, decide_eq_false hj]
  rw [atKey_of_not_has hn] at f1
  unfold Rv at f1
  simp only [Option.some.injEq, Prod.mk.injEq, DataW.held.injEq] at f1
  rw [f1.1, hn] at e1
  exact e1
theorem MapQ.put {w : World} {b n : Nat} {L : List Int} {G : Int → Rat} (h : MapQ w b n L G) (hn : n < 100000) {j : Int} (h1 : -9223372036854775808 ≤ j) (h2 : j ≤ 9223372036854775807) {val : Value} {r : Rat} (hv : RatV w val r) :
    ∃ w', (Instr.mapUpdate 62 (.map (some b)) (.int .i64 j) val).run Tryz.prog w = .ok () w' ∧ MapQ w' b (n + 1) (if j ∈ L then L else L ++ [j]) (fun i => if i = j then r else G i) ∧ w.grownBy w' (some b) ∧ Dg w w' := by
  obtain ⟨es, clock, he⟩ := h.heap
  obtain ⟨D, k1, k2, k3, k4⟩ := h
  obtain ⟨w', e, ho, hg⟩ := k1.update jKeyed Tryz.underlying62 (by unfold maxLen; omega) (jKey h1 h2) (val := val) (d := .held val) (ps := []) rfl
  have hd := Dg.map he hg
  have hkl : ∀ i : Int, WideAt.IsKeyLit (.int .i64 i) := fun i => trivial
  have hne : ∀ i : Int, i ≠ j → (Lit.int .i64 i) ≠ .int .i64 j := fun i hi e => hi (by injection e)
  refine ⟨w', e, ⟨_, ho, k2.put _ _, fun i => ?_, fun i hi => ?_⟩, hg, hd⟩
  · by_cases hij : i = j
    · subst hij
      rw [has_put_same k2 (hkl i)]
      symm
      rw [decide_eq_true_eq]
      by_cases hL : i ∈ L
      · rw [if_pos hL]; exact hL
      · rw [if_neg hL]; simp
    · rw [has_put_other (hne i hij), k3 i]
      by_cases hL : j ∈ L
      · simp only [if_pos hL]
      · simp only [if_neg hL, List.mem_append, List.mem_singleton, hij, or_false]
  · by_cases hij : i = j
    · subst hij
      exact ⟨val, fun z => atKey_put_same k2 (hkl i) _ _, by show RatV w' val (if i = i then r else G i); rw [if_pos rfl]; exact hv.dg hd⟩
    · have hL : i ∈ L := by
        by_cases hL : j ∈ L
        · rw [if_pos hL] at hi; exact hi
        · rw [if_neg hL, List.mem_append] at hi
          rcases hi with hi | hi
          · exact hi
          · simp at hi; exact absurd hi hij
      obtain ⟨v, a, c⟩ := k4 i hL
      exact ⟨v, fun z => by rw [atKey_put_other (hne i hij)]; exact a z, by show RatV w' v (if i = j then r else G i); rw [if_neg hij]; exact c.dg hd⟩
end Go.Proofs.YtaneocedklnajaaGreat

import Derived.Test.YtaneocedklnajaaGreatBase
import Derived.Maps.AppendAt
import Derived.Laws.CopyOwn
import Derived.Lib.SliceRun
import Derived.Laws.IdiomStrings
import Derived.Laws.BytesArg
/- What a call owns: a list of blocks, all different, with what each holds. One list serves variables in boxes and slices of one-cell elements. -/
namespace Go.Proofs.YtaneocedklnajaaGreat
open Go.RowKit
set_option linter.unusedVariables false

/-- A block that is a variable's box. -/
def boxO (t : TypeId) (v : Value) (o : Obj) : Prop := o = .cells #[v] t (0, 0)
/-- A block that is a row of one-cell elements, the first of which are xs. -/
def rowO (e : TypeId) (cap : Nat) (xs : List Value) (o : Obj) : Prop :=
  ∃ cur, o = .cells cur e (0, 0) ∧ cur.size = cap ∧ xs.length ≤ cap ∧ cap ≤ maxLen ∧ cur.toList.take xs.length = xs

structure Owns (w : World) (B : Nat) (l : List (Nat × (Obj → Prop))) : Prop where
  nd : (l.map Prod.fst).Nodup
  holds : ∀ p, p ∈ l → B ≤ p.1 ∧ ∃ o, w.heap[p.1]? = some o ∧ p.2 o

theorem heap_alloc_if (w : World) (o : Obj) (k : Nat) : (w.alloc o).heap[k]? = if k = w.heap.size then some o else w.heap[k]? := by
  show (w.heap.push o)[k]? = _
  rw [Array.getElem?_push]
theorem heap_at_new (w : World) (o : Obj) : (w.alloc o).heap[w.heap.size]? = some o := by rw [heap_alloc_if, if_pos rfl]

theorem heap_drew (w : World) : w.drew.heap = w.heap := rfl
theorem alloc_size (w : World) (o : Obj) : (w.alloc o).heap.size = w.heap.size + 1 := by
  show (w.heap.push o).size = _
  rw [Array.size_push]

theorem lt_of_heap {w : World} {b : Nat} {o : Obj} (h : w.heap[b]? = some o) : b < w.heap.size := (Array.getElem?_eq_some_iff.1 h).1

theorem Owns.nil (w : World) (B : Nat) : Owns w B [] := ⟨by simp, fun p hp => by cases hp⟩
theorem Owns.lt {w : World} {B : Nat} {l : List (Nat × (Obj → Prop))} (h : Owns w B l) {p : Nat × (Obj → Prop)} (hp : p ∈ l) : B ≤ p.1 ∧ p.1 < w.heap.size := by
  obtain ⟨hB, o, ho, _⟩ := h.holds p hp
  exact ⟨hB, lt_of_heap ho⟩
theorem Owns.same {w w' : World} {B : Nat} {l : List (Nat × (Obj → Prop))} (h : Owns w B l) (hs : ∀ b, B ≤ b → b < w.heap.size → w'.heap[b]? = w.heap[b]?) : Owns w' B l :=
  ⟨h.nd, fun p hp => by
    obtain ⟨hB, o, ho, hφ⟩ := h.holds p hp
    exact ⟨hB, o, (hs _ hB (lt_of_heap ho)).trans ho, hφ⟩⟩
theorem Owns.below {w w' : World} {B : Nat} {l : List (Nat × (Obj → Prop))} (h : Owns w B l) (hb : Below w.heap.size w w') : Owns w' B l := h.same fun b _ hlt => hb.block b hlt
theorem Owns.drewN {w : World} {B : Nat} {l : List (Nat × (Obj → Prop))} (h : Owns w B l) (n : Nat) : Owns (w.drewN n) B l := h.same fun _ _ _ => rfl
theorem Owns.drew {w : World} {B : Nat} {l : List (Nat × (Obj → Prop))} (h : Owns w B l) : Owns w.drew B l := h.same fun _ _ _ => rfl
theorem Owns.alloc {w : World} {B : Nat} {l : List (Nat × (Obj → Prop))} (h : Owns w B l) (o : Obj) : Owns (w.alloc o) B l := h.same fun b _ hlt => Below.heap_alloc w o b hlt
theorem Owns.new {w : World} {B : Nat} {l : List (Nat × (Obj → Prop))} (h : Owns w B l) (hB : B ≤ w.heap.size) {o : Obj} {φ : Obj → Prop} (hφ : φ o) : Owns (w.alloc o) B ((w.heap.size, φ) :: l) := by
  refine ⟨?_, fun p hp => ?_⟩
  · rw [List.map_cons, List.nodup_cons]
    refine ⟨fun hm => ?_, h.nd⟩
    obtain ⟨p, hp, he⟩ := List.mem_map.1 hm
    have := (h.lt hp).2
    omega
  · rcases List.mem_cons.1 hp with rfl | hp
    · exact ⟨hB, o, heap_at_new w o, hφ⟩
    · exact (h.alloc o).holds p hp
theorem Owns.perm {w : World} {B : Nat} {l l' : List (Nat × (Obj → Prop))} (h : Owns w B l) (hp : l.Perm l') : Owns w B l' :=
  ⟨(hp.map Prod.fst).nodup_iff.1 h.nd, fun p hm => h.holds p (hp.mem_iff.2 hm)⟩
theorem Owns.sub {w : World} {B : Nat} {l l' : List (Nat × (Obj → Prop))} (h : Owns w B l) (hs : l'.Sublist l) : Owns w B l' :=
  ⟨h.nd.sublist (hs.map Prod.fst), fun p hm => h.holds p (hs.subset hm)⟩
theorem Owns.mono {w : World} {B B' : Nat} {l : List (Nat × (Obj → Prop))} (h : Owns w B l) (hB : B' ≤ B) : Owns w B' l :=
  ⟨h.nd, fun p hp => ⟨Nat.le_trans hB (h.holds p hp).1, (h.holds p hp).2⟩⟩

/-- What another call's answer owns comes to what is owned. -/
theorem Owns.join {w w1 : World} {B : Nat} {l l1 : List (Nat × (Obj → Prop))} (h : Owns w B l) (hb : Below w.heap.size w w1) (hB : B ≤ w.heap.size) (h1 : Owns w1 w.heap.size l1) : Owns w1 B (l1 ++ l) := by
  refine ⟨?_, fun p hp => ?_⟩
  · rw [List.map_append, List.nodup_append]
    refine ⟨h1.nd, h.nd, fun a ha b hb' hab => ?_⟩
    obtain ⟨p, hp, rfl⟩ := List.mem_map.1 ha
    obtain ⟨q, hq, rfl⟩ := List.mem_map.1 hb'
    have e1 := (h1.lt hp).1
    have e2 := (h.lt hq).2
    omega
  · rcases List.mem_append.1 hp with hp | hp
    · obtain ⟨e, r⟩ := h1.holds p hp
      exact ⟨Nat.le_trans hB e, r⟩
    · exact (h.below hb).holds p hp
/-- An own slice as a block of the list. -/
theorem Owns.ofRow {w : World} {B : Nat} {e : TypeId} {g n c : Nat} {xs : List Value} (h : w.ownsRow B e 1 (.slice (some ⟨g, 0, none⟩) n c) n xs) : Owns w B [(g, rowO e c xs)] := by
  refine ⟨by simp, fun p hp => ?_⟩
  rw [List.mem_singleton] at hp
  subst hp
  have hl : xs.length = n := by simpa using h.1
  rcases h.2 with ⟨e1, _⟩ | ⟨g', cap', cur, e1, hB, hh, h1, h2, h3, h4⟩
  · cases e1
  · simp only [Value.slice.injEq, Option.some.injEq, Addr.mk.injEq] at e1
    obtain ⟨⟨rfl, _⟩, _, rfl⟩ := e1
    exact ⟨hB, _, hh, cur, rfl, by simpa using h3, by omega, h2, by rw [hl]; simpa using h4⟩

theorem mem_set_nd {α : Type} {l : List (Nat × α)} {i : Nat} {g : Nat} {φ : α} {x p : Nat × α} (hn : (l.map Prod.fst).Nodup) (hi : l[i]? = some (g, φ)) (hp : p ∈ l.set i x) : p = x ∨ (p ∈ l ∧ p.1 ≠ g) := by
  induction l generalizing i with
  | nil => simp at hi
  | cons y l ih =>
    rw [List.map_cons, List.nodup_cons] at hn
    cases i with
    | zero =>
      simp at hi
      subst hi
      rw [List.set_cons_zero] at hp
      rcases List.mem_cons.1 hp with rfl | hp
      · exact Or.inl rfl
      · exact Or.inr ⟨List.mem_cons_of_mem _ hp, fun e => hn.1 (List.mem_map.2 ⟨p, hp, e⟩)⟩
    | succ i =>
      rw [List.set_cons_succ] at hp
      simp only [List.getElem?_cons_succ] at hi
      rcases List.mem_cons.1 hp with rfl | hp
      · refine Or.inr ⟨List.mem_cons_self, fun e => hn.1 ?_⟩
        rw [e]
        exact List.mem_map.2 ⟨_, List.mem_of_getElem? hi, rfl⟩
      · rcases ih hn.2 hi hp with h | h
        · exact Or.inl h
        · exact Or.inr ⟨List.mem_cons_of_mem _ h.1, h.2⟩

theorem nodup_set_nd {l : List Nat} {i g g' : Nat} (hn : l.Nodup) (hi : l[i]? = some g) (hg : ∀ y, y ∈ l → y ≠ g → y ≠ g') : (l.set i g').Nodup := by
  induction l generalizing i with
  | nil => simp at hi
  | cons y l ih =>
    rw [List.nodup_cons] at hn
    cases i with
    | zero =>
      simp at hi
      subst hi
      rw [List.set_cons_zero, List.nodup_cons]
      exact ⟨fun hm => hg g' (List.mem_cons_of_mem _ hm) (fun e => hn.1 (e ▸ hm)) rfl, hn.2⟩
    | succ i =>
      simp only [List.getElem?_cons_succ] at hi
      rw [List.set_cons_succ, List.nodup_cons]
      refine ⟨fun hm => ?_, ih hn.2 hi fun z hz hne => hg z (List.mem_cons_of_mem _ hz) hne⟩
      rcases List.mem_or_eq_of_mem_set hm with h | h
      · exact hn.1 h
      · have hyg : y ≠ g := fun e => hn.1 (e ▸ List.mem_of_getElem? hi)
        exact hg y List.mem_cons_self hyg h

/-- One block is written, or given up for a new one; all others stay. -/
theorem Owns.upd {w w' : World} {B : Nat} {l : List (Nat × (Obj → Prop))} (h : Owns w B l) {i g g' : Nat} {φ ψ : Obj → Prop} {o : Obj} (hi : l[i]? = some (g, φ)) (hg : w.grownBy w' (some g))
    (hat : g' = g ∨ w.heap.size ≤ g') (hB : B ≤ g') (ho : w'.heap[g']? = some o) (hψ : ψ o) : Owns w' B (l.set i (g', ψ)) := by
  refine ⟨?_, fun p hp => ?_⟩
  · rw [List.map_set]
    refine nodup_set_nd (g := g) h.nd (by simp [hi]) fun y hy hne => ?_
    obtain ⟨p, hp, rfl⟩ := List.mem_map.1 hy
    have := (h.lt hp).2
    rcases hat with e | e <;> omega
  · rcases mem_set_nd h.nd hi hp with rfl | ⟨hp, hne⟩
    · exact ⟨hB, o, ho, hψ⟩
    · obtain ⟨hB, o, ho, hφ⟩ := h.holds p hp
      exact ⟨hB, o, (hg.block _ (lt_of_heap ho) (by simpa using hne)).trans ho, hφ⟩

theorem Owns.boxAt {w : World} {B : Nat} {l : List (Nat × (Obj → Prop))} (h : Owns w B l) (i : Nat) {b : Nat} {t : TypeId} {v : Value} (hi : l[i]? = some (b, boxO t v)) : w.cell? ⟨b, 0, none⟩ = some v ∧ w.frozen? ⟨b, 0, none⟩ = false := by
  obtain ⟨_, o, ho, hφ⟩ := h.holds _ (List.mem_of_getElem? hi)
  have e : o = .cells #[v] t (0, 0) := hφ
  subst e
  simp only at ho
  exact ⟨by simp [World.cell?, ho], by simp [World.frozen?, ho]⟩
theorem Owns.rowAt {w : World} {B : Nat} {l : List (Nat × (Obj → Prop))} (h : Owns w B l) (i : Nat) {g : Nat} {e : TypeId} {cap : Nat} {xs : List Value} (hi : l[i]? = some (g, rowO e cap xs)) :
    w.ownsRow B e 1 (.slice (some ⟨g, 0, none⟩) xs.length cap) xs.length xs ∧ w.grownBy w none := by
  obtain ⟨hB, o, ho, cur, rfl, hs, hl, hm, ht⟩ := h.holds _ (List.mem_of_getElem? hi)
  exact ⟨⟨by simp, Or.inr ⟨g, cap, cur, rfl, hB, ho, hl, hm, by simpa using hs, by simpa using ht⟩⟩, World.grownBy.refl _ _⟩
theorem Owns.cellAt {w : World} {B : Nat} {l : List (Nat × (Obj → Prop))} (h : Owns w B l) (i : Nat) {g : Nat} {e : TypeId} {cap : Nat} {xs : List Value} (hi : l[i]? = some (g, rowO e cap xs)) (j : Nat) (hj : j < xs.length) : w.cell? ⟨g, j, none⟩ = xs[j]? :=
  (h.rowAt i hi).1.cellAt j (by omega)
theorem Owns.frozenAt {w : World} {B : Nat} {l : List (Nat × (Obj → Prop))} (h : Owns w B l) (i : Nat) {g : Nat} {e : TypeId} {cap : Nat} {xs : List Value} (hi : l[i]? = some (g, rowO e cap xs)) (j : Nat) : w.frozen? ⟨g, j, none⟩ = false :=
  (h.rowAt i hi).1.frozenAt j
theorem Owns.intAt {w : World} {B : Nat} {l : List (Nat × (Obj → Prop))} (h : Owns w B l) (i : Nat) {g : Nat} {e : TypeId} {cap : Nat} {k : IntKind} {xs : List Int} (hi : l[i]? = some (g, rowO e cap (xs.map (Value.int k)))) (j : Nat) (hj : j < xs.length) : w.cell? ⟨g, j, none⟩ = some (.int k (xs.getD j 0)) := by
  rw [h.cellAt i hi j (by simpa using hj)]; simp [List.getD, hj]
theorem Owns.boolAt {w : World} {B : Nat} {l : List (Nat × (Obj → Prop))} (h : Owns w B l) (i : Nat) {g : Nat} {e : TypeId} {cap : Nat} {xs : List Bool} (hi : l[i]? = some (g, rowO e cap (xs.map Value.bool))) (j : Nat) (hj : j < xs.length) : w.cell? ⟨g, j, none⟩ = some (.bool (xs.getD j false)) := by
  rw [h.cellAt i hi j (by simpa using hj)]; simp [List.getD, hj]

theorem Owns.setBox {w : World} {B : Nat} {l : List (Nat × (Obj → Prop))} (h : Owns w B l) (i : Nat) {b : Nat} {t : TypeId} {v : Value} (hi : l[i]? = some (b, boxO t v)) (u : Value) : Owns (w.setCell ⟨b, 0, none⟩ u) B (l.set i (b, boxO t u)) := by
  obtain ⟨hB, o, ho, hφ⟩ := h.holds _ (List.mem_of_getElem? hi)
  have e : o = .cells #[v] t (0, 0) := hφ
  subst e
  refine h.upd hi (grownBy_setCell w ⟨b, 0, none⟩ u) (Or.inl rfl) hB (heap_setCell_same w b 0 #[v] t u ho) ?_
  rfl
theorem Owns.setRow {w : World} {B : Nat} {l : List (Nat × (Obj → Prop))} (h : Owns w B l) (i : Nat) {g : Nat} {e : TypeId} {cap : Nat} {xs : List Value} (hi : l[i]? = some (g, rowO e cap xs)) (j : Nat) (u : Value) : Owns (w.setCell ⟨g, j, none⟩ u) B (l.set i (g, rowO e cap (xs.set j u))) := by
  obtain ⟨hB, o, ho, cur, rfl, hs, hl, hm, ht⟩ := h.holds _ (List.mem_of_getElem? hi)
  refine h.upd hi (grownBy_setCell w ⟨g, j, none⟩ u) (Or.inl rfl) hB (heap_setCell_same w g j cur e u ho) ?_
  refine ⟨_, rfl, by simpa using hs, by simpa using hl, hm, ?_⟩
  rw [List.length_set, Array.toList_setIfInBounds, List.take_set, ht]
theorem Owns.setInt {w : World} {B : Nat} {l : List (Nat × (Obj → Prop))} (h : Owns w B l) (i : Nat) {g : Nat} {e : TypeId} {cap : Nat} {k : IntKind} {xs : List Int} (hi : l[i]? = some (g, rowO e cap (xs.map (Value.int k)))) (j : Nat) (u : Int) : Owns (w.setCell ⟨g, j, none⟩ (.int k u)) B (l.set i (g, rowO e cap ((xs.set j u).map (Value.int k)))) := by
  have := h.setRow i hi j (.int k u)
  rwa [← List.map_set] at this
theorem Owns.setBool {w : World} {B : Nat} {l : List (Nat × (Obj → Prop))} (h : Owns w B l) (i : Nat) {g : Nat} {e : TypeId} {cap : Nat} {xs : List Bool} (hi : l[i]? = some (g, rowO e cap (xs.map Value.bool))) (j : Nat) (u : Bool) : Owns (w.setCell ⟨g, j, none⟩ (.bool u)) B (l.set i (g, rowO e cap ((xs.set j u).map Value.bool))) := by
  have := h.setRow i hi j (.bool u)
  rwa [← List.map_set] at this

/-- What the laws on append leave, put back into the list. -/
theorem Owns.ap {w w' : World} {B : Nat} {l : List (Nat × (Obj → Prop))} (h : Owns w B l) (i : Nat) {g : Nat} {e : TypeId} {cap : Nat} {xs : List Value} (hi : l[i]? = some (g, rowO e cap xs)) {v' : Value} {n : Nat} {ys : List Value}
    (hown : w'.ownsRow B e 1 v' (n + 1) ys) (hg : w.grownBy w' (some g)) (hat : v'.ownBlock = some g ∨ v'.ownBlock = some w.heap.size) :
    ∃ g' cap', v' = .slice (some ⟨g', 0, none⟩) (n + 1) cap' ∧ Owns w' B (l.set i (g', rowO e cap' ys)) := by
  have hyl : ys.length = n + 1 := by simpa using hown.1
  rcases hown.2 with ⟨_, h0⟩ | ⟨g', cap', cur, rfl, hB, ho, hl, hm, hs, ht⟩
  · omega
  · refine ⟨g', cap', rfl, h.upd hi hg ?_ hB ho ⟨cur, rfl, by simpa using hs, by omega, hm, by rw [hyl]; simpa using ht⟩⟩
    simp only [Value.ownBlock, Option.some.injEq] at hat
    rcases hat with e | e <;> omega

/-- append of one one-cell element that was just laid in a block of its own: at the operation. -/
theorem wp_ap1 {P : Program} {o : Oper} {a : Act} {w : World} {K : Act → World → Prop} {Q : Exit → Act → World → Prop} (s x : Operand) (t : TypeId)
    (ho : o.op = .call { callee := .builtin .append, args := #[s, x], argTypes := #[t, t] })
    (base : Nat) (e : TypeId) (z : Value) (bytes : Nat) (ht : P.underlying t = some (.slice e)) (hinfo : (P.info? e).map (fun i => (i.zero, i.size, i.bytes)) = some (some z, 1, bytes)) (hzs : z.cells.size = 1)
    (v : Value) (n : Nat) (xs : List Value) (hs : a.eval s = v) (hown : w.ownsRow base e 1 v n xs) (b : Nat) (u : Value) (hx : a.eval x = .slice (some ⟨b, 0, none⟩) 1 1)
    (hu : w.cell? ⟨b, 0, none⟩ = some u) (h1 : u.oneCell' = true) (hn : n < 1099511627776) (hb : bytes ≤ 64) (hbase : base ≤ w.heap.size)
    (h : ∀ v' w', w'.ownsRow base e 1 v' (n + 1) (xs ++ [u]) → w.grownBy w' v.ownBlock → (v'.ownBlock = v.ownBlock ∨ v'.ownBlock = some w.heap.size) → K (a.put o.dst v') w') : o.wp P a w K Q := by
  obtain ⟨i, hi, hz, hsize, hby⟩ := info_parts hinfo
  have hm : (n + 1) * bytes ≤ (n + 1) * 64 := Nat.mul_le_mul_left _ hb
  obtain ⟨v', w', hr, h2, h3, _, h5⟩ := run_append_own_at (P := P) w base t o.type e i z 1 bytes ht hi hz hsize hby hzs (by omega) v n xs hown ⟨b, 0, none⟩ 1 1 [u] rfl
    (fun j y hj => by
      match j, hj with
      | 0, hj =>
        simp at hj
        subst hj
        simpa [Addr.add] using hu)
    (fun y hy => by simp at hy; subst hy; exact h1) (by unfold maxLen; omega) (by omega) hbase
  unfold Oper.wp execOp
  simp only [ho, resolve, invoke, builtin, Sem.run_bind, Sem.run_pure, Result.andThen_ok, List.map_toArray, List.map_cons, List.map_nil, hs, hx, hr]
  exact h v' w' h2 h3 h5

theorem wpList_ap1 {P : Program} {ops : Array Oper} {rest : List Oper} {o : Oper} {a : Act} {w : World} {Q : Exit → Act → World → Prop} (hgd : o.guard = none) (s x : Operand) (t : TypeId)
    (ho : o.op = .call { callee := .builtin .append, args := #[s, x], argTypes := #[t, t] })
    (base : Nat) (e : TypeId) (z : Value) (bytes : Nat) (ht : P.underlying t = some (.slice e)) (hinfo : (P.info? e).map (fun i => (i.zero, i.size, i.bytes)) = some (some z, 1, bytes)) (hzs : z.cells.size = 1)
    (v : Value) (n : Nat) (xs : List Value) (hs : a.eval s = v) (hown : w.ownsRow base e 1 v n xs) (b : Nat) (u : Value) (hx : a.eval x = .slice (some ⟨b, 0, none⟩) 1 1)
    (hu : w.cell? ⟨b, 0, none⟩ = some u) (h1 : u.oneCell' = true) (hn : n < 1099511627776) (hb : bytes ≤ 64) (hbase : base ≤ w.heap.size)
    (h : ∀ v' w', w'.ownsRow base e 1 v' (n + 1) (xs ++ [u]) → w.grownBy w' v.ownBlock → (v'.ownBlock = v.ownBlock ∨ v'.ownBlock = some w.heap.size) → wpList P ops Q rest (a.put o.dst v') w') : wpList P ops Q (o :: rest) a w := by
  refine wpList_plain hgd fun K hK => ?_
  exact wp_ap1 s x t ho base e z bytes ht hinfo hzs v n xs hs hown b u hx hu h1 hn hb hbase fun v' w' h2 h3 h4 => hK _ _ (h v' w' h2 h3 h4)

theorem step_ap1 {P : Program} {ops : Array Oper} {o : Oper} {a : Act} {w : World} {K : Act → World → Prop} {Q : Exit → Act → World → Prop} {E : Prop} (hgd : o.guard = none) (s x : Operand) (t : TypeId)
    (ho : o.op = .call { callee := .builtin .append, args := #[s, x], argTypes := #[t, t] })
    (base : Nat) (e : TypeId) (z : Value) (bytes : Nat) (ht : P.underlying t = some (.slice e)) (hinfo : (P.info? e).map (fun i => (i.zero, i.size, i.bytes)) = some (some z, 1, bytes)) (hzs : z.cells.size = 1)
    (v : Value) (n : Nat) (xs : List Value) (hs : a.eval s = v) (hown : w.ownsRow base e 1 v n xs) (b : Nat) (u : Value) (hx : a.eval x = .slice (some ⟨b, 0, none⟩) 1 1)
    (hu : w.cell? ⟨b, 0, none⟩ = some u) (h1 : u.oneCell' = true) (hn : n < 1099511627776) (hb : bytes ≤ 64) (hbase : base ≤ w.heap.size)
    (h : ∀ v' w', w'.ownsRow base e 1 v' (n + 1) (xs ++ [u]) → w.grownBy w' v.ownBlock → (v'.ownBlock = v.ownBlock ∨ v'.ownBlock = some w.heap.size) → K (a.put o.dst v') w') :
    if Region.wanted o (yielded ops a.tmps) = true then Oper.wp P o a w K Q else E := by
  rw [if_pos (by simp [Region.wanted, hgd])]
  exact wp_ap1 s x t ho base e z bytes ht hinfo hzs v n xs hs hown b u hx hu h1 hn hb hbase h

end Go.Proofs.YtaneocedklnajaaGreat
/- clear and copy into a row that is owned; append of a whole slice to a fresh one: laws for the walk over lists of own blocks. -/
namespace Go.Proofs.YtaneocedklnajaaGreat
open Go.RowKit
set_option linter.unusedVariables false

/-- Cells laid over a list. -/
def spl {α : Type} (xs : List α) (off : Nat) (cs : List α) : List α := xs.take off ++ (cs ++ xs.drop (off + cs.length))
theorem spl_len {α : Type} {xs : List α} {off : Nat} {cs : List α} (h : off + cs.length ≤ xs.length) : (spl xs off cs).length = xs.length := by simp [spl]; omega
theorem spl_map {α β : Type} (f : α → β) (xs : List α) (off : Nat) (cs : List α) : (spl xs off cs).map f = spl (xs.map f) off (cs.map f) := by simp [spl]
theorem spl_one {α : Type} {xs : List α} {off : Nat} {v : α} {cs : List α} (h : off < xs.length) : spl (xs.set off v) (off + 1) cs = spl xs off (v :: cs) := by
  unfold spl
  apply List.ext_getElem?
  intro i
  simp only [List.getElem?_append, List.length_take, List.length_set, List.getElem?_take, List.getElem?_set, List.getElem?_drop, List.length_cons]
  by_cases h1 : i < off
  · have a1 : i < min (off + 1) xs.length := by omega
    have a2 : i < min off xs.length := by omega
    have a3 : i < off + 1 := by omega
    have a4 : ¬ off = i := by omega
    simp [a1, a2, a3, a4, h1]
  · by_cases h2 : i = off
    · subst h2
      have a1 : i < min (i + 1) xs.length := by omega
      have a2 : ¬ i < min i xs.length := by omega
      have a5 : i - min i xs.length = 0 := by omega
      simp [a1, a2, a5, h]
    · have a1 : ¬ i < min (off + 1) xs.length := by omega
      have a2 : ¬ i < min off xs.length := by omega
      have a5 : i - min off xs.length = (i - min (off + 1) xs.length) + 1 := by omega
      have a6 : off + 1 ≤ xs.length := h
      simp only [a1, a2, if_false, a5, Nat.add_lt_add_iff_right, List.getElem?_cons_succ, Nat.add_sub_add_right]
      split
      · rfl
      · have a7 : ¬ off = off + 1 + cs.length + (i - min (off + 1) xs.length - cs.length) := by omega
        have a8 : off + (cs.length + 1) + (i - min (off + 1) xs.length - cs.length) = off + 1 + cs.length + (i - min (off + 1) xs.length - cs.length) := by omega
        simp [a7, a8]
theorem grownBy_setCells (g : Nat) : ∀ (vs : List Value) (o : Nat) (w : World), w.grownBy (w.setCells g o vs) (some g)
  | [], o, w => World.grownBy.refl _ _
  | v :: vs, o, w => by
    rw [World.setCells]
    exact grownBy_trans (grownBy_setCell w ⟨g, o, none⟩ v) (grownBy_setCells g vs (o + 1) _)
theorem set_same {α : Type} {l : List α} {i : Nat} {x : α} (h : l[i]? = some x) : l.set i x = l := by
  obtain ⟨hl, rfl⟩ := List.getElem?_eq_some_iff.1 h
  exact List.set_getElem_self hl
theorem Owns.setCells {B : Nat} {e : TypeId} {cap g i : Nat} : ∀ (vs : List Value) (o : Nat) (w : World) (l : List (Nat × (Obj → Prop))) (xs : List Value), Owns w B l → l[i]? = some (g, rowO e cap xs) → o + vs.length ≤ xs.length →
    Owns (w.setCells g o vs) B (l.set i (g, rowO e cap (spl xs o vs)))
  | [], o, w, l, xs, h, hi, hl => by
    have e1 : spl xs o [] = xs := by simp [spl]
    rw [World.setCells, e1, set_same hi]
    exact h
  | v :: vs, o, w, l, xs, h, hi, hl => by
    have h1 := h.setRow i hi o v
    have hil : i < l.length := (List.getElem?_eq_some_iff.1 hi).1
    have h2 := Owns.setCells (e := e) (cap := cap) (g := g) (i := i) vs (o + 1) _ _ (xs.set o v) h1 (by simp [hil]) (by simp at hl ⊢; omega)
    rw [List.set_set, spl_one (by simp at hl; omega)] at h2
    rw [World.setCells]
    exact h2

theorem take_splice {α : Type} (L : List α) (off n : Nat) (cs : List α) (h1 : off + cs.length ≤ n) (h2 : n ≤ L.length) : (L.take off ++ (cs ++ L.drop (off + cs.length))).take n = spl (L.take n) off cs := by
  unfold spl
  have hl : (L.take off).length = off := by simp; omega
  rw [List.take_append, hl, List.take_of_length_le (by omega : (L.take off).length ≤ n), List.take_append, List.take_of_length_le (by omega : cs.length ≤ n - off), List.take_take, Nat.min_eq_left (by omega : off ≤ n), show n - off - cs.length = n - (off + cs.length) from by omega, ← List.drop_take]
theorem wpList_clear_O {P : Program} {ops : Array Oper} {rest : List Oper} {o : Oper} {a : Act} {w : World} {Q : Exit → Act → World → Prop} (hgd : o.guard = none) (s : Operand) (t : TypeId)
    (ho : o.op = .call { callee := .builtin .clear, args := #[s], argTypes := #[t] }) (e : TypeId) (z : Value) (ht : P.underlying t = some (.slice e)) (hv : ∀ w, (zeroValue e).run P w = .ok z w) (hz : z.cells = #[z]) (hz1 : z.oneCell' = true)
    (g off n c : Nat) (hs : a.eval s = .slice (some ⟨g, off, none⟩) n c) (hn : 0 < n) {B : Nat} {l : List (Nat × (Obj → Prop))} {i cap : Nat} {xs : List Value} (hO : Owns w B l) (hi : l[i]? = some (g, rowO e cap xs)) (hfit : off + n ≤ xs.length)
    (h : ∀ w', Owns w' B (l.set i (g, rowO e cap (spl xs off (List.replicate n z)))) → w.grownBy w' (some g) → wpList P ops Q rest (a.put o.dst (.tuple #[])) w') : wpList P ops Q (o :: rest) a w := by
  refine wpList_plain hgd fun K hK => ?_
  have hr := fun ty => Lib.run_clear_slice (P := P) w t e ty z ht hv hz hz1 g off n c hn (fun j hj => by rw [hO.cellAt i hi (off + j) (by omega), List.getElem?_eq_getElem (by omega)]; rfl) (fun j hj => hO.frozenAt i hi (off + j))
  unfold Oper.wp execOp
  simp only [ho, resolve, invoke, builtin, Sem.run_bind, Sem.run_pure, Result.andThen_ok, List.map_toArray, List.map_cons, List.map_nil, hs, hr]
  exact hK _ _ (h _ (Owns.setCells _ _ _ _ _ hO hi (by simpa using hfit)) (grownBy_setCells _ _ _ _))

theorem wpList_copy_O {P : Program} {ops : Array Oper} {rest : List Oper} {o : Oper} {a : Act} {w : World} {Q : Exit → Act → World → Prop} (hgd : o.guard = none) (d s : Operand) (dT sT : TypeId)
    (ho : o.op = .call { callee := .builtin .copy, args := #[d, s], argTypes := #[dT, sT] }) (e : TypeId) (hu : P.underlying dT = some (.slice e)) (hsz : (P.info? e).map (·.size) = some 1)
    (g off dLen dCap sLen sCap : Nat) (sp : Option Addr) (hd : a.eval d = .slice (some ⟨g, off, none⟩) dLen dCap) (hs : a.eval s = .slice sp sLen sCap) {B : Nat} {l : List (Nat × (Obj → Prop))} {i cap : Nat} {xs : List Value} (hO : Owns w B l) (hi : l[i]? = some (g, rowO e cap xs))
    (cs : List Value) (hn : cs.length = sLen) (hle : sLen ≤ dLen) (hfit : off + sLen ≤ xs.length) (hsrc : ∀ j, j < sLen → ∃ b f, sp = some ⟨b, f, none⟩ ∧ w.cell? ⟨b, f + j, none⟩ = cs[j]?) (h1 : ∀ v ∈ cs, v.oneCell' = true)
    (h : ∀ w', Owns w' B (l.set i (g, rowO e cap (spl xs off cs))) → w.grownBy w' (some g) → wpList P ops Q rest (a.put o.dst (goInt cs.length)) w') : wpList P ops Q (o :: rest) a w := by
  by_cases h0 : sLen = 0
  · obtain rfl : cs = [] := List.eq_nil_of_length_eq_zero (by omega)
    refine wpList_copy_nothing hgd d s dT sT ho e hu hsz _ sp dLen dCap sLen sCap hd hs (by rw [h0]; exact Nat.zero_min _) ?_
    refine h w ?_ (World.grownBy.refl _ _)
    have e1 : spl xs off [] = xs := by simp [spl]
    rw [e1, set_same hi]
    exact hO
  · obtain ⟨b, f, rfl, _⟩ := hsrc 0 (by omega)
    obtain ⟨hB, ob, hob, cur, rfl, hcs, hcl, hcm, hct⟩ := hO.holds _ (List.mem_of_getElem? hi)
    simp only at hob hB
    have hplain : ∀ j, (⟨b, f, none⟩ : Addr).add j = ⟨b, f + j, none⟩ := fun j => by unfold Addr.add; split <;> simp_all
    refine wpList_copy_own hgd d s dT sT ho e hu hsz g off dLen dCap ⟨b, f, none⟩ sLen sCap hd hs cur e hob cs (by rw [hn]; exact (Nat.min_eq_left hle).symm) (fun j v hj => ?_) (by omega) h1 ?_
    · have hjl : j < sLen := by rw [← hn]; exact (List.getElem?_eq_some_iff.1 hj).1
      obtain ⟨b', f', e', hc'⟩ := hsrc j hjl
      simp only [Option.some.injEq, Addr.mk.injEq] at e'
      obtain ⟨rfl, rfl, _⟩ := e'
      rw [hplain, hc', hj]
    · have hg : w.grownBy (w.setRow g (cur.toList.take off ++ (cs ++ cur.toList.drop (off + cs.length))).toArray) (some g) := ⟨rfl, rfl, rfl, by simp [World.setRow], fun k hk hne => setRow_other w g k _ (fun e => hne (by rw [e]))⟩
      refine h _ (hO.upd hi hg (Or.inl rfl) hB (setRow_heap w g _ _ e _ hob) ?_) hg
      refine ⟨_, rfl, by simp; omega, by rw [spl_len (by omega)]; exact hcl, hcm, ?_⟩
      rw [spl_len (by omega)]
      have e1 := take_splice cur.toList off xs.length cs (by omega) (by simp; omega)
      rw [hct] at e1
      rw [List.toList_toArray]
      exact e1
end Go.Proofs.YtaneocedklnajaaGreat
/- One slice of the call's own that grows by append, and its bytes as a text. No condition. -/
namespace Go.Proofs.YtaneocedklnajaaGreat
open Go.RowKit
set_option linter.unusedVariables false

def GrowAt (w0 wr : World) (E : TypeId) (v : Value) (n : Nat) (xs : List Value) : Prop := wr.ownsRow w0.heap.size E 1 v n xs ∧ Below w0.heap.size w0 wr
theorem GrowAt.start (w : World) (E : TypeId) : GrowAt w (w.alloc (.cells #[] E)) E (.slice (some ⟨w.heap.size, 0, none⟩) 0 0) 0 [] :=
  ⟨⟨rfl, Or.inr ⟨w.heap.size, 0, #[], rfl, Nat.le_refl _, heap_at_new w _, by omega, by simp [maxLen], by simp, by simp⟩⟩, (Below.refl _ w).alloc (Nat.le_refl _) _⟩
theorem GrowAt.alloc {w0 wr : World} {E : TypeId} {v : Value} {n : Nat} {xs : List Value} (h : GrowAt w0 wr E v n xs) (o : Obj) : GrowAt w0 (wr.alloc o) E v n xs :=
  ⟨h.1.alloc o, h.2.alloc h.2.size o⟩
theorem GrowAt.drew {w0 wr : World} {E : TypeId} {v : Value} {n : Nat} {xs : List Value} (h : GrowAt w0 wr E v n xs) : GrowAt w0 wr.drew E v n xs := ⟨h.1, h.2.drew⟩
theorem GrowAt.drewN {w0 wr : World} {E : TypeId} {v : Value} {n : Nat} {xs : List Value} (h : GrowAt w0 wr E v n xs) (q : Nat) : GrowAt w0 (wr.drewN q) E v n xs := ⟨h.1, bthen h.2 (drewN_below _ _)⟩
theorem GrowAt.ret {w0 wr w' : World} {E : TypeId} {v : Value} {n : Nat} {xs : List Value} (h : GrowAt w0 wr E v n xs) (hb : Below wr.heap.size wr w') : GrowAt w0 w' E v n xs := ⟨own_below h.1 hb, bthen h.2 hb⟩
theorem GrowAt.push {w0 wr w' : World} {E : TypeId} {v v' : Value} {n : Nat} {xs : List Value} {u : Value} (h : GrowAt w0 wr E v n xs) (hown : w'.ownsRow w0.heap.size E 1 v' (n + 1) (xs ++ [u])) (hg : wr.grownBy w' v.ownBlock) : GrowAt w0 w' E v' (n + 1) (xs ++ [u]) :=
  ⟨hown, below_grown h.2 h.1 hg h.2.size⟩
theorem own_form {w : World} {B E : Nat} {v : Value} {n : Nat} {xs : List Value} (h : w.ownsRow B E 1 v n xs) : ∃ a c, v = .slice a n c := by
  rcases h.2 with ⟨e, h0⟩ | ⟨g, c, cur, e, _⟩
  · exact ⟨none, 0, by rw [e, h0]⟩
  · exact ⟨some ⟨g, 0, none⟩, c, e⟩
/-- The text of the bytes that are owned. -/
theorem conv_own {P : Program} {w : World} {B E : Nat} {v : Value} {n : Nat} {xs : List Int} (src dst : TypeId) (hs : P.underlying src = some (.slice E)) (he : P.underlying E = some (.int .u8)) (hd : P.underlying dst = some .string)
    (h : w.ownsRow B E 1 v n (xs.map (Value.int .u8))) : (convert src dst v).run P w = .ok (.string (strOfNums xs)) w := by
  have hl : xs.length = n := by simpa using h.1
  rcases h.2 with ⟨e, h0⟩ | ⟨g, c, cur, e, _⟩
  · subst e
    have hx : xs = [] := List.eq_nil_of_length_eq_zero (by omega)
    subst hx
    rw [run_convert_bytes_nil w src E hs he 0 0 dst hd]
    rfl
  · subst e
    refine run_convert_bytes_arg w src E hs he g 0 n c xs hl (fun i hi => ?_) dst hd
    rw [Nat.zero_add, h.cellAt i (by omega)]
    simp [List.getD, List.getElem?_eq_getElem (show i < xs.length by omega)]
theorem RetInts.of_grow {w wr : World} {v : Value} {n : Nat} {zs : List Int} (h : GrowAt w wr 2 v n (zs.map (Value.int .i64))) : RetInts w zs (.returned v) wr := by
  obtain ⟨a, c, rfl⟩ := own_form h.1
  have hl : zs.length = n := by simpa using h.1.1
  subst hl
  exact ⟨a, c, rfl, h.1, h.2⟩
end Go.Proofs.YtaneocedklnajaaGreat

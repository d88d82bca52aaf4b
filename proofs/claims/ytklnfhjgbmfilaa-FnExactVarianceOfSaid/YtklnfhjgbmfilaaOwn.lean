import Derived.Test.YtklnfhjgbmfilaaBase
import Derived.Maps.AppendAt
/- What a call owns: a list of blocks, all different, with what each holds. One list serves variables in boxes and slices of one-cell elements. -/
namespace Go.Proofs.Ytklnfhjgbmfilaa
open Go.RowKit
set_option linter.unusedVariables false

/-- A block that is a variable's box. -/
def boxO (t : TypeId) (v : Value) (o : Obj) : Prop := o = .cells #[v] t (0, 0)
/-- A block that is a row of one-cell elements, the first of which are xs. -/
def rowO (e : TypeId) (cap : Nat) (xs : List Value) (o : Obj) : Prop :=
  ∃ cur, o = .cells cur e (0, 0) ∧ cur.size = cap ∧ xs.length ≤ cap ∧ cap ≤ maxLen ∧ cur.toList.take xs.length = xs

structure Owns (w : World) (B : Nat) (l : List (Nat × (Obj → Prop))) : Prop where
  nd : (l.map Prod.fst).Nodup
  holds : ∀ p, p ∈ l → B ≤ p.1 ∧ ∃ o, w.heap[p.1]? = some o ∧ p.2 o

theorem heap_alloc_if (w : World) (o : Obj) (k : Nat) : (w.alloc o).heap[k]? = if k = w.heap.size then some o else w.heap[k]? := by
  show (w.heap.push o)[k]? = _
  rw [Array.getElem?_push]
theorem heap_at_new (w : World) (o : Obj) : (w.alloc o).heap[w.heap.size]? = some o := by rw [heap_alloc_if, if_pos rfl]

theorem heap_drew (w : World) : w.drew.heap = w.heap := rfl
theorem alloc_size (w : World) (o : Obj) : (w.alloc o).heap.size = w.heap.size + 1 := by
  show (w.heap.push o).size = _
  rw [Array.size_push]

theorem lt_of_heap {w : World} {b : Nat} {o : Obj} (h : w.heap[b]? = some o) : b < w.heap.size := (Array.getElem?_eq_some_iff.1 h).1

theorem Owns.nil (w : World) (B : Nat) : Owns w B [] := ⟨by simp, fun p hp => by cases hp⟩
theorem Owns.lt {w : World} {B : Nat} {l : List (Nat × (Obj → Prop))} (h : Owns w B l) {p : Nat × (Obj → Prop)} (hp : p ∈ l) : B ≤ p.1 ∧ p.1 < w.heap.size := by
  obtain ⟨hB, o, ho, _⟩ := h.holds p hp
  exact ⟨hB, lt_of_heap ho⟩
theorem Owns.same {w w' : World} {B : Nat} {l : List (Nat × (Obj → Prop))} (h : Owns w B l) (hs : ∀ b, B ≤ b → b < w.heap.size → w'.heap[b]? = w.heap[b]?) : Owns w' B l :=
  ⟨h.nd, fun p hp => by
    obtain ⟨hB, o, ho, hφ⟩ := h.holds p hp
    exact ⟨hB, o, (hs _ hB (lt_of_heap ho)).trans ho, hφ⟩⟩
theorem Owns.below {w w' : World} {B : Nat} {l : List (Nat × (Obj → Prop))} (h : Owns w B l) (hb : Below w.heap.size w w') : Owns w' B l := h.same fun b _ hlt => hb.block b hlt
theorem Owns.drewN {w : World} {B : Nat} {l : List (Nat × (Obj → Prop))} (h : Owns w B l) (n : Nat) : Owns (w.drewN n) B l := h.same fun _ _ _ => rfl
theorem Owns.drew {w : World} {B : Nat} {l : List (Nat × (Obj → Prop))} (h : Owns w B l) : Owns w.drew B l := h.same fun _ _ _ => rfl
theorem Owns.alloc {w : World} {B : Nat} {l : List (Nat × (Obj → Prop))} (h : Owns w B l) (o : Obj) : Owns (w.alloc o) B l := h.same fun b _ hlt => Below.heap_alloc w o b hlt
theorem Owns.new {w : World} {B : Nat} {l : List (Nat × (Obj → Prop))} (h : Owns w B l) (hB : B ≤ w.heap.size) {o : Obj} {φ : Obj → Prop} (hφ : φ o) : Owns (w.alloc o) B ((w.heap.size, φ) :: l) := by
  refine ⟨?_, fun p hp => ?_⟩
  · rw [List.map_cons, List.nodup_cons]
    refine ⟨fun hm => ?_, h.nd⟩
    obtain ⟨p, hp, he⟩ := List.mem_map.1 hm
    have := (h.lt hp).2
    omega
  · rcases List.mem_cons.1 hp with rfl | hp
    · exact ⟨hB, o, heap_at_new w o, hφ⟩
    · exact (h.alloc o).holds p hp
theorem Owns.perm {w : World} {B : Nat} {l l' : List (Nat × (Obj → Prop))} (h : Owns w B l) (hp : l.Perm l') : Owns w B l' :=
  ⟨(hp.map Prod.fst).nodup_iff.1 h.nd, fun p hm => h.holds p (hp.mem_iff.2 hm)⟩
theorem Owns.sub {w : World} {B : Nat} {l l' : List (Nat × (Obj → Prop))} (h : Owns w B l) (hs : l'.Sublist l) : Owns w B l' :=
  ⟨h.nd.sublist (hs.map Prod.fst), fun p hm => h.holds p (hs.subset hm)⟩
theorem Owns.mono {w : World} {B B' : Nat} {l : List (Nat × (Obj → Prop))} (h : Owns w B l) (hB : B' ≤ B) : Owns w B' l :=
  ⟨h.nd, fun p hp => ⟨Nat.le_trans hB (h.holds p hp).1, (h.holds p hp).2⟩⟩

/-- What another call's answer owns comes to what is owned. -/
theorem Owns.join {w w1 : World} {B : Nat} {l l1 : List (Nat × (Obj → Prop))} (h : Owns w B l) (hb : Below w.heap.size w w1) (hB : B ≤ w.heap.size) (h1 : Owns w1 w.heap.size l1) : Owns w1 B (l1 ++ l) := by
  refine ⟨?_, fun p hp => ?_⟩
  · rw [List.map_append, List.nodup_append]
    refine ⟨h1.nd, h.nd, fun a ha b hb' hab => ?_⟩
    obtain ⟨p, hp, rfl⟩ := List.mem_map.1 ha
    obtain ⟨q, hq, rfl⟩ := List.mem_map.1 hb'
    have e1 := (h1.lt hp).1
    have e2 := (h.lt hq).2
    omega
  · rcases List.mem_append.1 hp with hp | hp
    · obtain ⟨e, r⟩ := h1.holds p hp
      exact ⟨Nat.le_trans hB e, r⟩
    · exact (h.below hb).holds p hp
/-- An own slice as a block of the list. -/
theorem Owns.ofRow {w : World} {B : Nat} {e : TypeId} {g n c : Nat} {xs : List Value} (h : w.ownsRow B e 1 (.slice (some ⟨g, 0, none⟩) n c) n xs) : Owns w B [(g, rowO e c xs)] := by
  refine ⟨by simp, fun p hp => ?_⟩
  rw [List.mem_singleton] at hp
  subst hp
  have hl : xs.length = n := by simpa using h.1
  rcases h.2 with ⟨e1, _⟩ | ⟨g', cap', cur, e1, hB, hh, h1, h2, h3, h4⟩
  · cases e1
  · simp only [Value.slice.injEq, Option.some.injEq, Addr.mk.injEq] at e1
    obtain ⟨⟨rfl, _⟩, _, rfl⟩ := e1
    exact ⟨hB, _, hh, cur, rfl, by simpa using h3, by omega, h2, by rw [hl]; simpa using h4⟩

theorem mem_set_nd {α : Type} {l : List (Nat × α)} {i : Nat} {g : Nat} {φ : α} {x p : Nat × α} (hn : (l.map Prod.fst).Nodup) (hi : l[i]? = some (g, φ)) (hp : p ∈ l.set i x) : p = x ∨ (p ∈ l ∧ p.1 ≠ g) := by
  induction l generalizing i with
  | nil => simp at hi
  | cons y l ih =>
    rw [List.map_cons, List.nodup_cons] at hn
    cases i with
    | zero =>
      simp at hi
      subst hi
      rw [List.set_cons_zero] at hp
      rcases List.mem_cons.1 hp with rfl | hp
      · exact Or.inl rfl
      · exact Or.inr ⟨List.mem_cons_of_mem _ hp, fun e => hn.1 (List.mem_map.2 ⟨p, hp, e⟩)⟩
    | succ i =>
      rw [List.set_cons_succ] at hp
      simp only [List.getElem?_cons_succ] at hi
      rcases List.mem_cons.1 hp with rfl | hp
      · refine Or.inr ⟨List.mem_cons_self, fun e => hn.1 ?_⟩
        rw [e]
        exact List.mem_map.2 ⟨_, List.mem_of_getElem? hi, rfl⟩
      · rcases ih hn.2 hi hp with h | h
        · exact Or.inl h
        · exact Or.inr ⟨List.mem_cons_of_mem _ h.1, h.2⟩

theorem nodup_set_nd {l : List Nat} {i g g' : Nat} (hn : l.Nodup) (hi : l[i]? = some g) (hg : ∀ y, y ∈ l → y ≠ g → y ≠ g') : (l.set i g').Nodup := by
  induction l generalizing i with
  | nil => simp at hi
  | cons y l ih =>
    rw [List.nodup_cons] at hn
    cases i with
    | zero =>
      simp at hi
      subst hi
      rw [List.set_cons_zero, List.nodup_cons]
      exact ⟨fun hm => hg g' (List.mem_cons_of_mem _ hm) (fun e => hn.1 (e ▸ hm)) rfl, hn.2⟩
    | succ i =>
      simp only [List.getElem?_cons_succ] at hi
      rw [List.set_cons_succ, List.nodup_cons]
      refine ⟨fun hm => ?_, ih hn.2 hi fun z hz hne => hg z (List.mem_cons_of_mem _ hz) hne⟩
      rcases List.mem_or_eq_of_mem_set hm with h | h
      · exact hn.1 h
      · have hyg : y ≠ g := fun e => hn.1 (e ▸ List.mem_of_getElem? hi)
        exact hg y List.mem_cons_self hyg h

/-- One block is written, or given up for a new one; all others stay. -/
theorem Owns.upd {w w' : World} {B : Nat} {l : List (Nat × (Obj → Prop))} (h : Owns w B l) {i g g' : Nat} {φ ψ : Obj → Prop} {o : Obj} (hi : l[i]? = some (g, φ)) (hg : w.grownBy w' (some g))
    (hat : g' = g ∨ w.heap.size ≤ g') (hB : B ≤ g') (ho : w'.heap[g']? = some o) (hψ : ψ o) : Owns w' B (l.set i (g', ψ)) := by
  refine ⟨?_, fun p hp => ?_⟩
  · rw [List.map_set]
    refine nodup_set_nd (g := g) h.nd (by simp [hi]) fun y hy hne => ?_
    obtain ⟨p, hp, rfl⟩ := List.mem_map.1 hy
    have := (h.lt hp).2
    rcases hat with e | e <;> omega
  · rcases mem_set_nd h.nd hi hp with rfl | ⟨hp, hne⟩
    · exact ⟨hB, o, ho, hψ⟩
    · obtain ⟨hB, o, ho, hφ⟩ := h.holds p hp
      exact ⟨hB, o, (hg.block _ (lt_of_heap ho) (by simpa using hne)).trans ho, hφ⟩

theorem Owns.boxAt {w : World} {B : Nat} {l : List (Nat × (Obj → Prop))} (h : Owns w B l) (i : Nat) {b : Nat} {t : TypeId} {v : Value} (hi : l[i]? = some (b, boxO t v)) : w.cell? ⟨b, 0, none⟩ = some v ∧ w.frozen? ⟨b, 0, none⟩ = false := by
  obtain ⟨_, o, ho, hφ⟩ := h.holds _ (List.mem_of_getElem? hi)
  have e : o = .cells #[v] t (0, 0) := hφ
  subst e
  simp only at ho
  exact ⟨by simp [World.cell?, ho], by simp [World.frozen?, ho]⟩
theorem Owns.rowAt {w : World} {B : Nat} {l : List (Nat × (Obj → Prop))} (h : Owns w B l) (i : Nat) {g : Nat} {e : TypeId} {cap : Nat} {xs : List Value} (hi : l[i]? = some (g, rowO e cap xs)) :
    w.ownsRow B e 1 (.slice (some ⟨g, 0, none⟩) xs.length cap) xs.length xs ∧ w.grownBy w none := by
  obtain ⟨hB, o, ho, cur, rfl, hs, hl, hm, ht⟩ := h.holds _ (List.mem_of_getElem? hi)
  exact ⟨⟨by simp, Or.inr ⟨g, cap, cur, rfl, hB, ho, hl, hm, by simpa using hs, by simpa using ht⟩⟩, World.grownBy.refl _ _⟩
theorem Owns.cellAt {w : World} {B : Nat} {l : List (Nat × (Obj → Prop))} (h : Owns w B l) (i : Nat) {g : Nat} {e : TypeId} {cap : Nat} {xs : List Value} (hi : l[i]? = some (g, rowO e cap xs)) (j : Nat) (hj : j < xs.length) : w.cell? ⟨g, j, none⟩ = xs[j]? :=
  (h.rowAt i hi).1.cellAt j (by omega)
theorem Owns.frozenAt {w : World} {B : Nat} {l : List (Nat × (Obj → Prop))} (h : Owns w B l) (i : Nat) {g : Nat} {e : TypeId} {cap : Nat} {xs : List Value} (hi : l[i]? = some (g, rowO e cap xs)) (j : Nat) : w.frozen? ⟨g, j, none⟩ = false :=
  (h.rowAt i hi).1.frozenAt j
theorem Owns.intAt {w : World} {B : Nat} {l : List (Nat × (Obj → Prop))} (h : Owns w B l) (i : Nat) {g : Nat} {e : TypeId} {cap : Nat} {k : IntKind} {xs : List Int} (hi : l[i]? = some (g, rowO e cap (xs.map (Value.int k)))) (j : Nat) (hj : j < xs.length) : w.cell? ⟨g, j, none⟩ = some (.int k (xs.getD j 0)) := by
  rw [h.cellAt i hi j (by simpa using hj)]; simp [List.getD, hj]
theorem Owns.boolAt {w : World} {B : Nat} {l : List (Nat × (Obj → Prop))} (h : Owns w B l) (i : Nat) {g : Nat} {e : TypeId} {cap : Nat} {xs : List Bool} (hi : l[i]? = some (g, rowO e cap (xs.map Value.bool))) (j : Nat) (hj : j < xs.length) : w.cell? ⟨g, j, none⟩ = some (.bool (xs.getD j false)) := by
  rw [h.cellAt i hi j (by simpa using hj)]; simp [List.getD, hj]

theorem Owns.setBox {w : World} {B : Nat} {l : List (Nat × (Obj → Prop))} (h : Owns w B l) (i : Nat) {b : Nat} {t : TypeId} {v : Value} (hi : l[i]? = some (b, boxO t v)) (u : Value) : Owns (w.setCell ⟨b, 0, none⟩ u) B (l.set i (b, boxO t u)) := by
  obtain ⟨hB, o, ho, hφ⟩ := h.holds _ (List.mem_of_getElem? hi)
  have e : o = .cells #[v] t (0, 0) := hφ
  subst e
  refine h.upd hi (grownBy_setCell w ⟨b, 0, none⟩ u) (Or.inl rfl) hB (heap_setCell_same w b 0 #[v] t u ho) ?_
  rfl
theorem Owns.setRow {w : World} {B : Nat} {l : List (Nat × (Obj → Prop))} (h : Owns w B l) (i : Nat) {g : Nat} {e : TypeId} {cap : Nat} {xs : List Value} (hi : l[i]? = some (g, rowO e cap xs)) (j : Nat) (u : Value) : Owns (w.setCell ⟨g, j, none⟩ u) B (l.set i (g, rowO e cap (xs.set j u))) := by
  obtain ⟨hB, o, ho, cur, rfl, hs, hl, hm, ht⟩ := h.holds _ (List.mem_of_getElem? hi)
  refine h.upd hi (grownBy_setCell w ⟨g, j, none⟩ u) (Or.inl rfl) hB (heap_setCell_same w g j cur e u ho) ?_
  refine ⟨_, rfl, by simpa using hs, by simpa using hl, hm, ?_⟩
  rw [List.length_set, Array.toList_setIfInBounds, List.take_set, ht]
theorem Owns.setInt {w : World} {B : Nat} {l : List (Nat × (Obj → Prop))} (h : Owns w B l) (i : Nat) {g : Nat} {e : TypeId} {cap : Nat} {k : IntKind} {xs : List Int} (hi : l[i]? = some (g, rowO e cap (xs.map (Value.int k)))) (j : Nat) (u : Int) : Owns (w.setCell ⟨g, j, none⟩ (.int k u)) B (l.set i (g, rowO e cap ((xs.set j u).map (Value.int k)))) := by
  have := h.setRow i hi j (.int k u)
  rwa [← List.map_set] at this
theorem Owns.setBool {w : World} {B : Nat} {l : List (Nat × (Obj → Prop))} (h : Owns w B l) (i : Nat) {g : Nat} {e : TypeId} {cap : Nat} {xs : List Bool} (hi : l[i]? = some (g, rowO e cap (xs.map Value.bool))) (j : Nat) (u : Bool) : Owns (w.setCell ⟨g, j, none⟩ (.bool u)) B (l.set i (g, rowO e cap ((xs.set j u).map Value.bool))) := by
  have := h.setRow i hi j (.bool u)
  rwa [← List.map_set] at this

/-- What the laws on append leave, put back into the list. -/
theorem Owns.ap {w w' : World} {B : Nat} {l : List (Nat × (Obj → Prop))} (h : Owns w B l) (i : Nat) {g : Nat} {e : TypeId} {cap : Nat} {xs : List Value} (hi : l[i]? = some (g, rowO e cap xs)) {v' : Value} {n : Nat} {ys : List Value}
    (hown : w'.ownsRow B e 1 v' (n + 1) ys) (hg : w.grownBy w' (some g)) (hat : v'.ownBlock = some g ∨ v'.ownBlock = some w.heap.size) :
    ∃ g' cap', v' = .slice (some ⟨g', 0, none⟩) (n + 1) cap' ∧ Owns w' B (l.set i (g', rowO e cap' ys)) := by
  have hyl : ys.length = n + 1 := by simpa using hown.1
  rcases hown.2 with ⟨_, h0⟩ | ⟨g', cap', cur, rfl, hB, ho, hl, hm, hs, ht⟩
  · omega
  · refine ⟨g', cap', rfl, h.upd hi hg ?_ hB ho ⟨cur, rfl, by simpa using hs, by omega, hm, by rw [hyl]; simpa using ht⟩⟩
    simp only [Value.ownBlock, Option.some.injEq] at hat
    rcases hat with e | e <;> omega

/-- append of one one-cell element that was just laid in a block of its own: at the operation. -/
theorem wp_ap1 {P : Program} {o : Oper} {a : Act} {w : World} {K : Act → World → Prop} {Q : Exit → Act → World → Prop} (s x : Operand) (t : TypeId)
    (ho : o.op = .call { callee := .builtin .append, args := #[s, x], argTypes := #[t, t] })
    (base : Nat) (e : TypeId) (z : Value) (bytes : Nat) (ht : P.underlying t = some (.slice e)) (hinfo : (P.info? e).map (fun i => (i.zero, i.size, i.bytes)) = some (some z, 1, bytes)) (hzs : z.cells.size = 1)
    (v : Value) (n : Nat) (xs : List Value) (hs : a.eval s = v) (hown : w.ownsRow base e 1 v n xs) (b : Nat) (u : Value) (hx : a.eval x = .slice (some ⟨b, 0, none⟩) 1 1)
    (hu : w.cell? ⟨b, 0, none⟩ = some u) (h1 : u.oneCell' = true) (hn : n < 1099511627776) (hb : bytes ≤ 64) (hbase : base ≤ w.heap.size)
    (h : ∀ v' w', w'.ownsRow base e 1 v' (n + 1) (xs ++ [u]) → w.grownBy w' v.ownBlock → (v'.ownBlock = v.ownBlock ∨ v'.ownBlock = some w.heap.size) → K (a.put o.dst v') w') : o.wp P a w K Q := by
  obtain ⟨i, hi, hz, hsize, hby⟩ := info_parts hinfo
  have hm : (n + 1) * bytes ≤ (n + 1) * 64 := Nat.mul_le_mul_left _ hb
  obtain ⟨v', w', hr, h2, h3, _, h5⟩ := run_append_own_at (P := P) w base t o.type e i z 1 bytes ht hi hz hsize hby hzs (by omega) v n xs hown ⟨b, 0, none⟩ 1 1 [u] rfl
    (fun j y hj => by
      match j, hj with
      | 0, hj =>
        simp at hj
        subst hj
        simpa [Addr.add] using hu)
    (fun y hy => by simp at hy; subst hy; exact h1) (by unfold maxLen; omega) (by omega) hbase
  unfold Oper.wp execOp
  simp only [ho, resolve, invoke, builtin, Sem.run_bind, Sem.run_pure, Result.andThen_ok, List.map_toArray, List.map_cons, List.map_nil, hs, hx, hr]
  exact h v' w' h2 h3 h5

theorem wpList_ap1 {P : Program} {ops : Array Oper} {rest : List Oper} {o : Oper} {a : Act} {w : World} {Q : Exit → Act → World → Prop} (hgd : o.guard = none) (s x : Operand) (t : TypeId)
    (ho : o.op = .call { callee := .builtin .append, args := #[s, x], argTypes := #[t, t] })
    (base : Nat) (e : TypeId) (z : Value) (bytes : Nat) (ht : P.underlying t = some (.slice e)) (hinfo : (P.info? e).map (fun i => (i.zero, i.size, i.bytes)) = some (some z, 1, bytes)) (hzs : z.cells.size = 1)
    (v : Value) (n : Nat) (xs : List Value) (hs : a.eval s = v) (hown : w.ownsRow base e 1 v n xs) (b : Nat) (u : Value) (hx : a.eval x = .slice (some ⟨b, 0, none⟩) 1 1)
    (hu : w.cell? ⟨b, 0, none⟩ = some u) (h1 : u.oneCell' = true) (hn : n < 1099511627776) (hb : bytes ≤ 64) (hbase : base ≤ w.heap.size)
    (h : ∀ v' w', w'.ownsRow base e 1 v' (n + 1) (xs ++ [u]) → w.grownBy w' v.ownBlock → (v'.ownBlock = v.ownBlock ∨ v'.ownBlock = some w.heap.size) → wpList P ops Q rest (a.put o.dst v') w') : wpList P ops Q (o :: rest) a w := by
  refine wpList_plain hgd fun K hK => ?_
  exact wp_ap1 s x t ho base e z bytes ht hinfo hzs v n xs hs hown b u hx hu h1 hn hb hbase fun v' w' h2 h3 h4 => hK _ _ (h v' w' h2 h3 h4)

theorem step_ap1 {P : Program} {ops : Array Oper} {o : Oper} {a : Act} {w : World} {K : Act → World → Prop} {Q : Exit → Act → World → Prop} {E : Prop} (hgd : o.guard = none) (s x : Operand) (t : TypeId)
    (ho : o.op = .call { callee := .builtin .append, args := #[s, x], argTypes := #[t, t] })
    (base : Nat) (e : TypeId) (z : Value) (bytes : Nat) (ht : P.underlying t = some (.slice e)) (hinfo : (P.info? e).map (fun i => (i.zero, i.size, i.bytes)) = some (some z, 1, bytes)) (hzs : z.cells.size = 1)
    (v : Value) (n : Nat) (xs : List Value) (hs : a.eval s = v) (hown : w.ownsRow base e 1 v n xs) (b : Nat) (u : Value) (hx : a.eval x = .slice (some ⟨b, 0, none⟩) 1 1)
    (hu : w.cell? ⟨b, 0, none⟩ = some u) (h1 : u.oneCell' = true) (hn : n < 1099511627776) (hb : bytes ≤ 64) (hbase : base ≤ w.heap.size)
    (h : ∀ v' w', w'.ownsRow base e 1 v' (n + 1) (xs ++ [u]) → w.grownBy w' v.ownBlock → (v'.ownBlock = v.ownBlock ∨ v'.ownBlock = some w.heap.size) → K (a.put o.dst v') w') :
    if Region.wanted o (yielded ops a.tmps) = true then Oper.wp P o a w K Q else E := by
  rw [if_pos (by simp [Region.wanted, hgd])]
  exact wp_ap1 s x t ho base e z bytes ht hinfo hzs v n xs hs hown b u hx hu h1 hn hb hbase h

end Go.Proofs.Ytklnfhjgbmfilaa

import Derived.Test.YtaneocedklnajaaGreatJlB
import Derived.Test.YtaneocedklnajaaGreatLawG
import Derived.Sort.OwnSortedInts
/- The program's sum of two laws: the walk. Condition: both are valid. -/
namespace Go.Proofs.YtaneocedklnajaaGreat
open Go.RowKit Go.Maps Go.Sort
set_option linter.unusedVariables false

/-- What lies ahead of the loops. -/
structure JaS (w : World) (V1 C1 V2 C2' : Value) (a1 a2 u1 u2 : Option Addr) (m m' n n' : Nat) (vs fs us gs : List Int) (wr : World) : Prop where
  b0 : C2 wr w.heap.size V1 C1
  b1 : C2 wr (w.heap.size + 1) V2 C2'
  b2 : C2 wr (w.heap.size + 2) (.slice none 0 0) (.slice none 0 0)
  x1 : IsInts wr a1 m vs
  x2 : IsInts wr a2 (m' * 2) fs
  y1 : IsInts wr u1 n us
  y2 : IsInts wr u2 (n' * 2) gs
  bel : Below w.heap.size w wr
theorem JaS.all {w : World} {V1 C1 V2 C2' : Value} {a1 a2 u1 u2 : Option Addr} {m m' n n' : Nat} {vs fs us gs : List Int} {wr wx : World} (h : JaS w V1 C1 V2 C2' a1 a2 u1 u2 m m' n n' vs fs us gs wr) (hb : Below wr.heap.size wr wx) : JaS w V1 C1 V2 C2' a1 a2 u1 u2 m m' n n' vs fs us gs wx :=
  ⟨h.b0.all hb, h.b1.all hb, h.b2.all hb, h.x1.below hb, h.x2.below hb, h.y1.below hb, h.y2.below hb, bthen h.bel hb⟩
theorem JaS.start {w : World} {V1 C1 V2 C2' : Value} {a1 a2 u1 u2 : Option Addr} {m m' n n' : Nat} {vs fs us gs : List Int} (h1 : IsInts w a1 m vs) (h2 : IsInts w a2 (m' * 2) fs) (k1 : IsInts w u1 n us) (k2 : IsInts w u2 (n' * 2) gs) (t : Nat) :
    JaS w V1 C1 V2 C2' a1 a2 u1 u2 m m' n n' vs fs us gs (((w.alloc (.cells #[V1, C1] t)).alloc (.cells #[V2, C2'] t)).alloc (.cells #[.slice none 0 0, .slice none 0 0] t)) := by
  have hA : Below w.heap.size w (((w.alloc (.cells #[V1, C1] t)).alloc (.cells #[V2, C2'] t)).alloc (.cells #[.slice none 0 0, .slice none 0 0] t)) := (((Below.refl _ w).alloc (Nat.le_refl _) _).alloc (by simp) _).alloc (by simp; omega) _
  have e1 : (w.alloc (.cells #[V1, C1] t)).heap.size = w.heap.size + 1 := alloc_size _ _
  have e2 : ((w.alloc (.cells #[V1, C1] t)).alloc (.cells #[V2, C2'] t)).heap.size = w.heap.size + 2 := by rw [alloc_size, e1]
  refine ⟨((C2.new w t V1 C1).all ((Below.refl _ _).alloc (Nat.le_refl _) _)).all ((Below.refl _ _).alloc (Nat.le_refl _) _), ?_, ?_, h1.below hA, h2.below hA, k1.below hA, k2.below hA, hA⟩
  · have := C2.new (w.alloc (.cells #[V1, C1] t)) t V2 C2'
    rw [e1] at this
    exact this.all ((Below.refl _ _).alloc (Nat.le_refl _) _)
  · have := C2.new ((w.alloc (.cells #[V1, C1] t)).alloc (.cells #[V2, C2'] t)) t (.slice none 0 0) (.slice none 0 0)
    rw [e2] at this
    exact this
/-- What the loops keep. -/
structure JpS (wA wr : World) (bm g n cap : Nat) (pv : Nat → Int) (pr : Nat → Rat) (t : Nat) (xs : List Int) : Prop where
  own : OwI wr wA.heap.size g n cap xs
  len : xs.length = n
  map : MapQ wr bm t (vsT pv t) (fun j => gS pv pr j t)
  bel : Below wA.heap.size wA wr
  lo : wA.heap.size ≤ bm
theorem JpS.all {wA wr wx : World} {bm g n cap : Nat} {pv : Nat → Int} {pr : Nat → Rat} {t : Nat} {xs : List Int} (h : JpS wA wr bm g n cap pv pr t xs) (hb : Below wr.heap.size wr wx) : JpS wA wx bm g n cap pv pr t xs :=
  ⟨h.own.below hb, h.len, h.map.below hb, bthen h.bel hb, h.lo⟩
theorem JpS.start (wA : World) (pv : Nat → Int) (pr : Nat → Rat) : JpS wA ((wA.alloc (.map #[] 0)).alloc (.cells #[] 2)) wA.heap.size (wA.heap.size + 1) 0 0 pv pr 0 [] := by
  have e1 : (wA.alloc (.map #[] 0)).heap.size = wA.heap.size + 1 := alloc_size _ _
  have h1 := OwI.start (wA.alloc (.map #[] 0)) (B := wA.heap.size) (by omega)
  rw [e1] at h1
  exact ⟨h1, rfl, (MapQ.made wA _).below ((Below.refl _ _).alloc (Nat.le_refl _) _), ((Below.refl _ wA).alloc (Nat.le_refl _) _).alloc (by omega) _, Nat.le_refl _⟩
theorem frozen_heap {w w' : World} {b : Nat} (h : w'.heap[b]? = w.heap[b]?) (o : Nat) : w'.frozen? ⟨b, o, none⟩ = w.frozen? ⟨b, o, none⟩ := by
  unfold World.frozen?
  simp only [h]
theorem RBox.kept {w w' : World} {b : Nat} {r : Rat} {row : Option Nat} (h : RBox w b r) (hg : w.grownBy w' row) (hne : some b ≠ row) (hd : Dg w w') : RBox w' b r := by
  obtain ⟨a1, c1, l1, a2, c2, l2, hC, hR⟩ := h
  have e := hg.block b hC.lt hne
  exact ⟨a1, c1, l1, a2, c2, l2, ⟨(cell_heap e 0).trans hC.c0, (cell_heap e 1).trans hC.c1, (cell_heap e 2).trans hC.c2, (frozen_heap e 0).trans hC.f0, (frozen_heap e 1).trans hC.f1, (frozen_heap e 2).trans hC.f2, Nat.lt_of_lt_of_le hC.lt hg.size⟩, hR.dg hd⟩
theorem put3_grown (w : World) (b : Nat) (x y z : Value) : w.grownBy (put3 w b x y z) (some b) :=
  grownBy_trans (grownBy_trans (grownBy_setCell w ⟨b, 0, none⟩ x) (grownBy_setCell _ ⟨b, 1, none⟩ y)) (grownBy_setCell _ ⟨b, 2, none⟩ z)
theorem Dg.ints {w w' : World} (h : Ints w w') : Dg w w' := fun b o z e => h b o .u32 z e
theorem JpS.put {wA wr : World} {bm g n cap b : Nat} {pv : Nat → Int} {pr : Nat → Rat} {t : Nat} {xs : List Int} {s : Bool} {a1 a2 : Option Addr} {l1 c1 l2 c2 : Nat} (h : JpS wA wr bm g n cap pv pr t xs) (hC : C3 wr b (.bool s) (.slice a1 l1 c1) (.slice a2 l2 c2))
    (h1 : wA.heap.size ≤ b) (h2 : g < b) (h3 : bm < b) (x y z : Value) : JpS wA (put3 wr b x y z) bm g n cap pv pr t xs := by
  have hg := put3_grown wr b x y z
  exact ⟨h.own.kept hg (fun e => by injection e; omega), h.len, h.map.kept hg (fun e => by injection e; omega) (Dg.ints (put3_ints hC x y z)), put3_below h.bel h1 x y z, h.lo⟩
theorem JpS.push {wA wr w5 : World} {bm g n cap g' cap' : Nat} {pv : Nat → Int} {pr : Nat → Rat} {t : Nat} {xs : List Int} {z : Int} (h : JpS wA wr bm g n cap pv pr t xs) (hown : OwI w5 wA.heap.size g' (n + 1) cap' (xs ++ [z])) (hg : wr.grownBy w5 (some g)) : JpS wA w5 bm g' (n + 1) cap' pv pr t (xs ++ [z]) :=
  ⟨hown, by rw [List.length_append, h.len]; rfl, h.map.kept hg (fun e => h.map.ne h.own (Option.some.inj e)) (Dg.grown hg h.own.all), h.bel.grown hg h.bel.size (fun k hk => by cases hk; exact h.own.lt.1), h.lo⟩
theorem JpS.next {wA wr : World} {bm g n cap : Nat} {pv : Nat → Int} {pr : Nat → Rat} {t : Nat} {J : Int} {v : Value} (h : JpS wA wr bm g n cap pv pr t (vsT pv (t + 1))) (hJ : pv t = J) (ht : t < 100000) (h1 : -9223372036854775808 ≤ J) (h2 : J ≤ 9223372036854775807) (hv : RatV wr v (gS pv pr J t + pr t)) :
    ∃ w', (Instr.mapUpdate 62 (.map (some bm)) (.int .i64 J) v).run Tryz.prog wr = .ok () w' ∧ JpS wA w' bm g n cap pv pr (t + 1) (vsT pv (t + 1)) := by
  subst hJ
  obtain ⟨w', e, hm, hg, hd⟩ := h.map.put ht h1 h2 hv
  refine ⟨w', e, h.own.kept hg (fun e => h.map.ne h.own (Option.some.inj e)), h.len, ?_, h.bel.grown hg h.bel.size (fun k hk => by cases hk; exact h.lo), h.lo⟩
  have e1 : vsT pv (t + 1) = if pv t ∈ vsT pv t then vsT pv t else vsT pv t ++ [pv t] := rfl
  rw [e1]
  refine hm.same fun j hj => ?_
  show gS pv pr j (t + 1) = if j = pv t then gS pv pr (pv t) t + pr t else gS pv pr j t
  rw [gS]
  by_cases e : pv t = j
  · rw [if_pos e, if_pos e.symm, e]
  · rw [if_neg e, if_neg (fun h => e h.symm)]
theorem wpList_ap2 {P : Program} {ops : Array Oper} {rest : List Oper} {o : Oper} {a : Act} {w : World} {Q : Exit → Act → World → Prop} (hgd : o.guard = none) (s x : Operand) (t : TypeId)
    (ho : o.op = .call { callee := .builtin .append, args := #[s, x], argTypes := #[t, t] })
    (base : Nat) (e : TypeId) (z : Value) (bytes : Nat) (ht : P.underlying t = some (.slice e)) (hinfo : (P.info? e).map (fun i => (i.zero, i.size, i.bytes)) = some (some z, 2, bytes)) (hzs : z.cells.size = 2)
    (v : Value) (n : Nat) (xs : List Value) (hs : a.eval s = v) (hown : w.ownsRow base e 2 v n xs) (b : Nat) (u y : Value) (hx : a.eval x = .slice (some ⟨b, 0, none⟩) 1 1)
    (hu : w.cell? ⟨b, 0, none⟩ = some u) (hy : w.cell? ⟨b, 1, none⟩ = some y) (h1 : u.oneCell' = true) (h2 : y.oneCell' = true) (hn : n < 1099511627776) (hb : bytes ≤ 64) (hbase : base ≤ w.heap.size)
    (h : ∀ v' w', w'.ownsRow base e 2 v' (n + 1) (xs ++ [u, y]) → w.grownBy w' v.ownBlock → (v'.ownBlock = v.ownBlock ∨ v'.ownBlock = some w.heap.size) → wpList P ops Q rest (a.put o.dst v') w') : wpList P ops Q (o :: rest) a w := by
  refine wpList_plain hgd fun K hK => ?_
  exact wp_ap2 s x t ho base e z bytes ht hinfo hzs v n xs hs hown b u y hx hu hy h1 h2 hn hb hbase fun v' w' h2 h3 h4 => hK _ _ (h v' w' h2 h3 h4)
/-- What the last loop keeps. -/
structure JcS (w5 wr : World) (b14 g nn cap k : Nat) (C : Value) (xs : List Int) : Prop where
  box : LBox wr b14 (.slice (some ⟨g, 0, none⟩) nn cap) C
  cha : wr.ownsRow (b14 + 1) 40 2 C k (xs.map (Value.int .i64))
  bel : Below w5.heap.size w5 wr
  eq : b14 = w5.heap.size
theorem JcS.start (w5 : World) (g nn cap : Nat) : JcS w5 (w5.alloc (.cells #[.slice (some ⟨g, 0, none⟩) nn cap, .slice none 0 0] 29)) w5.heap.size g nn cap 0 (.slice none 0 0) [] :=
  ⟨heap_at_new _ _, World.ownsRow_nil _ _ _ _, (Below.refl _ _).alloc (Nat.le_refl _) _, rfl⟩
theorem JcS.all {w5 wr wx : World} {b14 g nn cap k : Nat} {C : Value} {xs : List Int} (h : JcS w5 wr b14 g nn cap k C xs) (hb : Below wr.heap.size wr wx) : JcS w5 wx b14 g nn cap k C xs :=
  ⟨h.box.below hb, own_below h.cha hb, bthen h.bel hb, h.eq⟩
theorem JcS.mid {w5 wr w7 : World} {b14 g nn cap k : Nat} {C : Value} {xs : List Int} (h : JcS w5 wr b14 g nn cap k C xs) (hg : wr.grownBy w7 C.ownBlock) : LBox w7 b14 (.slice (some ⟨g, 0, none⟩) nn cap) C :=
  (hg.block b14 (lt_of_heap h.box) (fun e => by have := (h.cha.lt b14 e.symm).1; omega)).trans h.box
theorem JcS.app {w5 wr w7 : World} {b14 g nn cap k : Nat} {C C' : Value} {xs : List Int} {p q : Int} (h : JcS w5 wr b14 g nn cap k C xs) (hown : w7.ownsRow (b14 + 1) 40 2 C' (k + 1) (xs.map (Value.int .i64) ++ [.int .i64 p, .int .i64 q])) (hg : wr.grownBy w7 C.ownBlock) :
    JcS w5 (w7.setCell ⟨b14, 1, none⟩ C') b14 g nn cap (k + 1) C' (xs ++ [p, q]) := by
  have h1 := heap_setCell_same w7 b14 1 _ 29 C' (h.mid hg)
  refine ⟨h1, ?_, (h.bel.grown hg h.bel.size (fun j hj => by have := (h.cha.lt j hj).1; have := h.eq; omega)).setCell (p := ⟨b14, 1, none⟩) (by rw [h.eq]; exact Nat.le_refl _) _, h.eq⟩
  rw [List.map_append]
  refine hown.kept (grownBy_setCell w7 ⟨b14, 1, none⟩ C') (Or.inr fun e => ?_)
  have := (hown.lt b14 e).1
  omega
theorem jl_box {w2 : World} {B r : Nat} {V C : Value} {vs fs : List Int} (h : LawAt w2 B V C vs fs) (hr : r < B) : LawAt ((w2.setCell ⟨r, 0, none⟩ V).setCell ⟨r, 1, none⟩ C) B V C vs fs := by
  have hg := grownBy_trans (grownBy_setCell w2 ⟨r, 0, none⟩ V) (grownBy_setCell (w2.setCell ⟨r, 0, none⟩ V) ⟨r, 1, none⟩ C)
  have aux : ∀ (v : Value) (E sz n : Nat) (xs : List Value), w2.ownsRow B E sz v n xs → v.ownBlock = none ∨ v.ownBlock ≠ some r := fun v E sz n xs ho => by
    cases hv : v.ownBlock with
    | none => exact Or.inl rfl
    | some k =>
      right
      intro e
      have := (ho.lt k hv).1
      cases e
      omega
  exact ⟨h.val.kept hg (aux _ _ _ _ _ h.val), h.cha.kept hg (aux _ _ _ _ _ h.cha), h.dis⟩
theorem jl_sort (g n cap B : Nat) (xs : List Int) (w : World) (h : OwI w B g n cap xs) (hl : xs.length = n) (hn : n < 100000) :
    Calls Tryz.prog 36 #[.slice (some ⟨g, 0, none⟩) n cap] w fun e w' => e = .returned (.tuple #[]) ∧ w'.ownsRow B 2 1 (.slice (some ⟨g, 0, none⟩) n cap) n ((xs.mergeSort fun x y => decide (x ≤ y)).map (Value.int .i64)) ∧ w.grownBy w' (some g) := by
  subst hl
  have hlt := h.lt.2
  obtain ⟨_, h0⟩ := h.own
  rcases h0 with ⟨e0, _⟩ | ⟨g1, cap1, cur, e1, hbg, hg, hnc, hcm, hcs, htk⟩
  · cases e0
  · cases e1
    refine (Tryz.slices_Sort_i64 g 0 cap xs w (holds_of_blockI hg (by simpa using htk)) hlt (by omega)).mono ?_
    rintro e w' ⟨rfl, k, os, rfl⟩
    exact ⟨rfl, ownsRow_sortedI (List.length_mergeSort _) hbg hg hnc hcm hcs, grownBy_sortedI _⟩
set_option maxRecDepth 100000 in
set_option maxHeartbeats 6400000 in
theorem joinI_any (a1 a2 u1 u2 : Option Addr) (m c1 c2 n d1 d2 : Nat) (vs fs us gs : List Int) (w : World) (hq1 : LawQ vs fs m) (hq2 : LawQ us gs n) (h1 : IsInts w a1 m vs) (h2 : IsInts w a2 (m * 2) fs) (k1 : IsInts w u1 n us) (k2 : IsInts w u2 (n * 2) gs) :
    Calls Tryz.prog 8 #[.agg #[.slice a1 m c1, .slice a2 m c2], .agg #[.slice u1 n d1, .slice u2 n d2]] w (RetLaw w (jOk vs fs us gs m n) (if jOk vs fs us gs m n then jV vs us m n else []) (if jOk vs fs us gs m n then jF vs fs us gs m n else [])) := by
  have H0 := Lib.hid (JaS.start (w := w) (V1 := .slice a1 m c1) (C1 := .slice a2 m c2) (V2 := .slice u1 n d1) (C2' := .slice u2 n d2) h1 h2 k1 k2 29)
  have hlo1 := lawOk_of h1.1 hq1
  have hlo2 := lawOk_of k1.1 hq2
  have hm64 := hq1.n64
  have hn64 := hq2.n64
  have HV1 := Lib.hid (fun w h1 h2 => by have := validLaw_any a1 a2 m m c1 c2 vs fs w (by omega) (by omega) h1 h2; rw [hlo1] at this; exact this)
  have HV2 := Lib.hid (fun w h1 h2 => by have := validLaw_any u1 u2 n n d1 d2 us gs w (by omega) (by omega) h1 h2; rw [hlo2] at this; exact this)
  have HQ := Lib.hid (And.intro hq1 hq2)
  clear h1 h2 k1 k2 hlo1 hlo2 hq1 hq2
  obtain ⟨ok, hok⟩ : ∃ ok, jOk vs fs us gs m n = ok := ⟨_, rfl⟩
  obtain ⟨RV, hrv⟩ : ∃ RV, (if jOk vs fs us gs m n = true then jV vs us m n else []) = RV := ⟨_, rfl⟩
  obtain ⟨RF, hrf⟩ : ∃ RF, (if jOk vs fs us gs m n = true then jF vs fs us gs m n else []) = RF := ⟨_, rfl⟩
  rw [hrv, hrf, hok]
  have HRES := Lib.hid (And.intro hok (And.intro hrv hrf))
  clear hok hrv hrf
  go_enter Tryz.func8, Tryz.ntmps8
  go_wp2_with fail
  obtain ⟨wA, hwA⟩ : ∃ w', ((w.alloc (.cells #[.slice a1 m c1, .slice a2 m c2] 29)).alloc (.cells #[.slice u1 n d1, .slice u2 n d2] 29)).alloc (.cells #[.slice none 0 0, .slice none 0 0] 29) = w' := ⟨_, rfl⟩
  rw [hwA] at H0 ⊢
  clear hwA
  obtain ⟨x0, x1, x2, x3, x4⟩ := H0.out.b0
  obtain ⟨y0, y1, y2, y3, y4⟩ := H0.out.b1
  obtain ⟨z0, z1, z2, z3, z4⟩ := H0.out.b2
  refine (HV1.out _ H0.out.x1 H0.out.x2).mono ?_
  rintro e w1 ⟨rfl, hb⟩
  have H1 := Lib.hid (H0.out.all hb)
  clear hb x0 x1 x2 x3 x4 y0 y1 y2 y3 y4 z0 z1 z2 z3 z4 H0
  obtain ⟨y0, y1, y2, y3, y4⟩ := H1.out.b1
  go_wp2_with fail
  refine (HV2.out _ H1.out.y1 H1.out.y2).mono ?_
  rintro e w2 ⟨rfl, hb⟩
  have H2 := Lib.hid (H1.out.all hb)
  clear hb y0 y1 y2 y3 y4 H1 HV1 HV2
  obtain ⟨x0, x1, x2, x3, x4⟩ := H2.out.b0
  have hmm := @run_makeMap Tryz.prog
  have hM := Nat.mul_le_mul hm64 hn64
  have HPV := Lib.hid (show ∀ i k, i < m → k < n → jpv vs us n (i * n + k) = vs.getD i 0 + us.getD k 0 from fun i k hi hk => by
    obtain ⟨e1, e2⟩ := pair_div (n := n) (i := i) hk
    unfold jpv; rw [e1, e2])
  have HPRO := Lib.hid (show ∀ i k, i < m → k < n → jpr fs gs n (i * n + k) = frR fs i * frR gs k from fun i k hi hk => by
    obtain ⟨e1, e2⟩ := pair_div (n := n) (i := i) hk
    unfold jpr; rw [e1, e2])
  have HPB := Lib.hid (show (∀ j t, t ≤ m * n → bitsR (gS (jpv vs us n) (jpr fs gs n) j t) 500000) ∧ (∀ t, t < m * n → bitsR (jpr fs gs n t) 120) from
    ⟨fun j t ht => jR_bits (k := 0) HQ.out.1 HQ.out.2 j t ht, fun t ht => jpr_bits HQ.out.1 HQ.out.2 ht⟩)
  obtain ⟨pv, hpv⟩ : ∃ pv, jpv vs us n = pv := ⟨_, rfl⟩
  obtain ⟨pr, hpr⟩ : ∃ pr, jpr fs gs n = pr := ⟨_, rfl⟩
  rw [hpv] at HPV HPB
  rw [hpr] at HPRO HPB
  have HDEF := Lib.hid (And.intro hpv hpr)
  clear hpv hpr
  have HJ0 := Lib.hid (JpS.start w2 pv pr)
  go_wp2_with fail
  obtain ⟨wB, hwB⟩ : ∃ w', (w2.alloc (.map #[] 0)).alloc (.cells #[] 2) = w' := ⟨_, rfl⟩
  obtain ⟨bm, hbm⟩ : ∃ b, w2.heap.size = b := ⟨_, rfl⟩
  have HBM := Lib.hid hbm
  rw [hwB, hbm] at HJ0
  rw [hwB, hbm]
  clear hwB hbm
  go_loopw [33, 7] (fun c v wr => ∃ (i g nn cap : Nat), i ≤ m ∧ c = .int .i64 (i : Nat) ∧ v = .slice (some ⟨g, 0, none⟩) nn cap ∧ Hid (JpS w2 wr bm g nn cap pv pr (i * n) (vsT pv (i * n)))) (fun c _ _ => m - (intOf c).toNat)
  case atStart => exact ⟨0, _, 0, 0, Nat.zero_le _, rfl, rfl, Lib.hid (by rw [Nat.zero_mul]; exact HJ0.out)⟩
  case round =>
    clear HJ0
    obtain ⟨i, g, nn, cap, hile, rfl, rfl, HJ⟩ := hrel
    by_cases hlt : i < m
    · have hi0 : (0:Int) ≤ (i:Int) := by omega
      have hil : (i:Int) < (m:Int) := by omega
      have hxr := HQ.out.1.rng i hlt
      obtain ⟨gx, ox, rfl, hcx⟩ := (H2.out.all HJ.out.bel).x1.at hlt
      obtain ⟨y0, y1, y2, y3, y4⟩ := (H2.out.all HJ.out.bel).b1
      obtain ⟨x, hx⟩ : ∃ x, vs.getD i 0 = x := ⟨_, rfl⟩
      rw [hx] at hxr hcx
      have HX := Lib.hid hx
      have HXR := Lib.hid hxr
      clear hx hxr
      go_wp2_with fail
      go_loopw [41, 7] (fun c v wr => ∃ (k g nn cap : Nat), k ≤ n ∧ c = .int .i64 (k : Nat) ∧ v = .slice (some ⟨g, 0, none⟩) nn cap ∧ Hid (JpS w2 wr bm g nn cap pv pr (i * n + k) (vsT pv (i * n + k)))) (fun c _ _ => n - (intOf c).toNat)
      case atStart => exact ⟨0, _, _, _, Nat.zero_le _, rfl, rfl, HJ⟩
      case round =>
        clear HJ y0 y1 y2 y3 y4 hcx
        obtain ⟨k, g, nn, cap, hkle, rfl, rfl, HJ⟩ := hrel
        by_cases hkn : k < n
        · skip
          have hk0 : (0:Int) ≤ (k:Int) := by omega
          have hkl : (k:Int) < (n:Int) := by omega
          have hi : i < m := hlt
          have hT := pair_lt hlt hkn
          have HPJ0 := HPV.out i k hlt hkn
          have HPR0 := HPRO.out i k hlt hkn
          obtain ⟨y, hy⟩ : ∃ y, us.getD k 0 = y := ⟨_, rfl⟩
          have hyr := HQ.out.2.rng k hkn
          have hok1 := HQ.out.1.ok i hlt
          have hok2 := HQ.out.2.ok k hkn
          have HR1 := Lib.hid (fun w => ratioOf_rr (frN fs i) (frD fs i) w hok1)
          have HR2 := Lib.hid (fun w => ratioOf_rr (frN gs k) (frD gs k) w hok2)
          have HB3 := Lib.hid (And.intro (frR_bits hok1) (frR_bits hok2))
          have hB3t := And.intro (HPB.out.1 (x + y) (i * n + k) (by omega)) (HPB.out.2 (i * n + k) hT)
          obtain ⟨gy, oy, hay, hcy⟩ := (H2.out.all HJ.out.bel).y1.at hkn
          obtain ⟨gy0, oy0, rfl, _⟩ := H2.out.y1.at hkn
          cases hay
          rw [hy] at hyr hcy HPJ0
          rw [HX.out] at HPJ0
          have HJ' := HJ.out
          obtain ⟨t, ht⟩ : ∃ t, i * n + k = t := ⟨_, rfl⟩
          rw [ht] at HJ' hT HPJ0 HPR0 hB3t
          have HJT := Lib.hid HJ'
          have HPJ := Lib.hid HPJ0
          have HPR := Lib.hid HPR0
          have HB3t := Lib.hid hB3t
          have hxr2 := HXR.out
          have hww : IntKind.i64.wrap (x + y) = x + y := IntWalk.i64_in _ (by omega)
          have hJ1 : -9223372036854775808 ≤ x + y := by omega
          have hJ2 : x + y ≤ 9223372036854775807 := by omega
          have ht4 : t < 4096 := by omega
          have hnn : nn ≤ 4096 := by have h1 := HJT.out.len; have h2 := vsT_len pv t; omega
          clear hyr hok1 hok2 HPJ0 HPR0 hB3t HJ' HJ hy
          by_cases hin : (x + y) ∈ vsT pv t
          · skip
            obtain ⟨v, hlk, _, hv⟩ := HJT.out.map.yes hJ1 hJ2 hin
            obtain ⟨q1', l1', e1', q2', l2', e2', rfl, hraw⟩ := hv
            have hb12 : Below wr.heap.size wr (wr.alloc (.cells #[.bool (decide ((gS pv pr (x + y) t).num < 0)), .slice q1' l1' e1', .slice q2' l2' e2'] 66)) := (Below.refl _ _).alloc (Nat.le_refl _) _
            have HQS0 := Lib.hid (show JpS w2 (wr.alloc (.cells #[.bool (decide ((gS pv pr (x + y) t).num < 0)), .slice q1' l1' e1', .slice q2' l2' e2'] 66)) bm g nn cap pv pr t (vsT pv (t + 1)) ∧ RBox (wr.alloc (.cells #[.bool (decide ((gS pv pr (x + y) t).num < 0)), .slice q1' l1' e1', .slice q2' l2' e2'] 66)) wr.heap.size (gS pv pr (x + y) t) from
              ⟨by rw [show vsT pv (t + 1) = vsT pv t by rw [vsT, HPJ.out, if_pos hin]]; exact HJT.out.all hb12, ⟨q1', e1', l1', q2', e2', l2', C3.new wr _ _ _ _, hraw.below hb12⟩⟩)
            clear hb12 hraw hin
            obtain ⟨sq, hsq⟩ : ∃ sq, decide ((gS pv pr (x + y) t).num < 0) = sq := ⟨_, rfl⟩
            rw [hsq] at hlk HQS0
            clear hsq
            go_wp2_with fail
            obtain ⟨b12, hb12⟩ : ∃ b, wr.heap.size = b := ⟨_, rfl⟩
            obtain ⟨wq, hwq⟩ : ∃ w', wr.alloc (.cells #[.bool sq, .slice q1' l1' e1', .slice q2' l2' e2'] 66) = w' := ⟨_, rfl⟩
            rw [hb12, hwq] at HQS0
            rw [hwq, hb12]
            clear hwq hb12 hlk
            have HQS := Lib.hid (show JpS w2 wq bm g nn cap pv pr t (vsT pv (t + 1)) ∧ RBox wq b12 (gS pv pr (x + y) t) from HQS0.out)
            clear HQS0
            obtain ⟨q1, e1, l1, q2, e2, l2, hC3, hRW⟩ := HQS.out.2
            obtain ⟨sg, hsg⟩ : ∃ sg, decide ((gS pv pr (x + y) t).num < 0) = sg := ⟨_, rfl⟩
            rw [hsg] at hC3
            have HSG := Lib.hid hsg
            have HC3 := Lib.hid hC3
            have HRW := Lib.hid (hRW.below (Below.refl _ wq).drew)
            obtain ⟨g2, o2, rfl, _, _⟩ := fr_at (H2.out.x2) hi
            obtain ⟨g4, o4, rfl, _, _⟩ := fr_at (H2.out.y2) hkn
            have HSA : Hid (∀ w', Below wq.heap.size wq w' → w'.cell? ⟨b12, 0, none⟩ = some (.bool sg) ∧ w'.cell? ⟨b12, 1, none⟩ = some (.slice q1 l1 e1) ∧ w'.cell? ⟨b12, 2, none⟩ = some (.slice q2 l2 e2) ∧ w'.cell? ⟨w.heap.size, 1, none⟩ = some (.slice (some ⟨g2, o2, none⟩) m c2) ∧ w'.cell? ⟨g2, o2 + i * 2, none⟩ = some (.int .i64 (frN fs i)) ∧ w'.cell? ⟨g2, o2 + i * 2 + 1, none⟩ = some (.int .i64 (frD fs i)) ∧ w'.cell? ⟨w.heap.size + 1, 1, none⟩ = some (.slice (some ⟨g4, o4, none⟩) n d2) ∧ w'.cell? ⟨g4, o4 + k * 2, none⟩ = some (.int .i64 (frN gs k)) ∧ w'.cell? ⟨g4, o4 + k * 2 + 1, none⟩ = some (.int .i64 (frD gs k))) := Lib.hid (by
              intro w' hb
              have hJ := H2.out.all (bthen HQS.out.1.bel hb)
              obtain ⟨g', o', e', c1', c2'⟩ := fr_at hJ.x2 hi
              obtain ⟨g'', o'', e'', c3', c4'⟩ := fr_at hJ.y2 hkn
              cases e'
              cases e''
              have hC := HC3.out.all hb
              exact ⟨hC.c0, hC.c1, hC.c2, hJ.b0.c1, c1', c2', hJ.b1.c1, c3', c4'⟩)
            have HM1 := Lib.hid (HQS.out.1.all (Below.refl _ wq).drew)
            have hS := HSA.out wq.drew (Below.refl _ wq).drew
            clear hsg hC3 hRW
            refine wp_region_any (by kernel_rfl) (any_of_K (k := 19) (S := fun w' => w'.cell? ⟨b12, 0, none⟩ = some (.bool sg) ∧ w'.cell? ⟨b12, 1, none⟩ = some (.slice q1 l1 e1) ∧ w'.cell? ⟨b12, 2, none⟩ = some (.slice q2 l2 e2) ∧ w'.cell? ⟨w.heap.size, 1, none⟩ = some (.slice (some ⟨g2, o2, none⟩) m c2) ∧ w'.cell? ⟨g2, o2 + i * 2, none⟩ = some (.int .i64 (frN fs i)) ∧ w'.cell? ⟨g2, o2 + i * 2 + 1, none⟩ = some (.int .i64 (frD fs i)) ∧ w'.cell? ⟨w.heap.size + 1, 1, none⟩ = some (.slice (some ⟨g4, o4, none⟩) n d2) ∧ w'.cell? ⟨g4, o4 + k * 2, none⟩ = some (.int .i64 (frN gs k)) ∧ w'.cell? ⟨g4, o4 + k * 2 + 1, none⟩ = some (.int .i64 (frD gs k))) (T := fun _ => True) _ _ _ _ ?_)
            refine anyT_take (i := 0) (n := 19) (v := .map (some bm)) rfl (by decide) (by kernel_rfl) (by kernel_rfl) (by kernel_rfl) (fun _ _ _ h => h) (Or.inl ⟨by kernel_rfl, fun w' hw => by go_simp⟩) hS trivial ?_
            refine anyT_take (i := 1) (n := 18) (v := .int .i64 x) rfl (by decide) (by kernel_rfl) (by kernel_rfl) (by kernel_rfl) (fun _ _ _ h => h) (Or.inl ⟨by kernel_rfl, fun w' hw => by go_simp⟩) hS trivial ?_
            refine anyT_take (i := 2) (n := 17) (v := .int .i64 y) rfl (by decide) (by kernel_rfl) (by kernel_rfl) (by kernel_rfl) (fun _ _ _ h => h) (Or.inl ⟨by kernel_rfl, fun w' hw => by go_simp⟩) hS trivial ?_
            refine anyT_take (i := 3) (n := 16) (v := .int .i64 (x + y)) rfl (by decide) (by kernel_rfl) (by kernel_rfl) (by kernel_rfl) (fun _ _ _ h => h) (Or.inl ⟨by kernel_rfl, fun w' hw => by go_simp⟩) hS trivial ?_
            refine anyK_take (i := 4) (n := 15) (v := .agg #[.bool sg, .slice q1 l1 e1, .slice q2 l2 e2]) rfl rfl (by kernel_rfl) (by kernel_rfl) (by kernel_rfl) (by kernel_rfl) (by kernel_rfl) (fun _ _ _ h => h) (Or.inl ⟨by kernel_rfl, fun w' hw => by (obtain ⟨z0, z1, z2, z3, z4, z5, z6, z7, z8⟩ := hw; go_simp)⟩) hS trivial ?_
            refine anyT_take (i := 5) (n := 14) (v := .pointer (some ⟨w.heap.size, 1, none⟩)) rfl (by decide) (by kernel_rfl) (by kernel_rfl) (by kernel_rfl) (fun _ _ _ h => h) (Or.inl ⟨by kernel_rfl, fun w' hw => by go_simp⟩) hS trivial ?_
            refine anyK_take (i := 6) (n := 13) (v := .slice (some ⟨g2, o2, none⟩) m c2) rfl rfl (by kernel_rfl) (by kernel_rfl) (by kernel_rfl) (by kernel_rfl) (by kernel_rfl) (fun _ _ _ h => h) (Or.inl ⟨by kernel_rfl, fun w' hw => by (obtain ⟨z0, z1, z2, z3, z4, z5, z6, z7, z8⟩ := hw; go_simp)⟩) hS trivial ?_
            refine anyT_take (i := 7) (n := 12) (v := .int .i64 (i : Nat)) rfl (by decide) (by kernel_rfl) (by kernel_rfl) (by kernel_rfl) (fun _ _ _ h => h) (Or.inl ⟨by kernel_rfl, fun w' hw => by go_simp⟩) hS trivial ?_
            refine anyT_take (i := 8) (n := 11) (v := .pointer (some ⟨g2, o2 + i * 2, none⟩)) rfl (by decide) (by kernel_rfl) (by kernel_rfl) (by kernel_rfl) (fun _ _ _ h => h) (Or.inl ⟨by kernel_rfl, fun w' hw => by go_simp⟩) hS trivial ?_
            refine anyK_take (i := 9) (n := 10) (v := .agg #[.int .i64 (frN fs i), .int .i64 (frD fs i)]) rfl rfl (by kernel_rfl) (by kernel_rfl) (by kernel_rfl) (by kernel_rfl) (by kernel_rfl) (fun _ _ _ h => h) (Or.inl ⟨by kernel_rfl, fun w' hw => by (obtain ⟨z0, z1, z2, z3, z4, z5, z6, z7, z8⟩ := hw; go_simp)⟩) hS trivial ?_
            refine anyT_take (i := 11) (n := 9) (v := .pointer (some ⟨w.heap.size + 1, 1, none⟩)) rfl (by decide) (by kernel_rfl) (by kernel_rfl) (by kernel_rfl) (fun _ _ _ h => h) (Or.inl ⟨by kernel_rfl, fun w' hw => by go_simp⟩) hS trivial ?_
            refine anyK_take (i := 12) (n := 8) (v := .slice (some ⟨g4, o4, none⟩) n d2) rfl rfl (by kernel_rfl) (by kernel_rfl) (by kernel_rfl) (by kernel_rfl) (by kernel_rfl) (fun _ _ _ h => h) (Or.inl ⟨by kernel_rfl, fun w' hw => by (obtain ⟨z0, z1, z2, z3, z4, z5, z6, z7, z8⟩ := hw; go_simp)⟩) hS trivial ?_
            refine anyT_take (i := 13) (n := 7) (v := .int .i64 (k : Nat)) rfl (by decide) (by kernel_rfl) (by kernel_rfl) (by kernel_rfl) (fun _ _ _ h => h) (Or.inl ⟨by kernel_rfl, fun w' hw => by go_simp⟩) hS trivial ?_
            refine anyT_take (i := 14) (n := 6) (v := .pointer (some ⟨g4, o4 + k * 2, none⟩)) rfl (by decide) (by kernel_rfl) (by kernel_rfl) (by kernel_rfl) (fun _ _ _ h => h) (Or.inl ⟨by kernel_rfl, fun w' hw => by go_simp⟩) hS trivial ?_
            refine anyK_take (i := 15) (n := 5) (v := .agg #[.int .i64 (frN gs k), .int .i64 (frD gs k)]) rfl rfl (by kernel_rfl) (by kernel_rfl) (by kernel_rfl) (by kernel_rfl) (by kernel_rfl) (fun _ _ _ h => h) (Or.inl ⟨by kernel_rfl, fun w' hw => by (obtain ⟨z0, z1, z2, z3, z4, z5, z6, z7, z8⟩ := hw; go_simp)⟩) hS trivial ?_
            refine anyK_all (n := 4) (rs := [10]) (by kernel_rfl) (by simp) (fun i hi => ?_)
            simp only [List.mem_cons, List.not_mem_nil, or_false] at hi
            obtain rfl := hi
            refine wpOp_step rfl (fun K' hK => ?_)
            go_simp
            refine (HR1.out _).mono ?_
            rintro e w5 ⟨s3, t1, t2, t3, t4, t5, t6, rfl, hv3, hb3, hs3⟩
            have hq3 : Below wq.heap.size wq w5 := bthen (Below.refl _ wq).drew hb3
            have HM5 := Lib.hid (And.intro (HM1.out.all hb3) (And.intro hv3 (And.intro (HRW.out.below hb3) (And.intro hq3 hs3))))
            have hS5 := HSA.out _ hq3
            refine hK _ _ ⟨fun _ _ => hS5, trivial, ?_⟩
            clear hK hv3 hb3 hs3 hS HM1 hq3 HRW
            refine anyK_all (n := 3) (rs := [16]) (by kernel_rfl) (by simp) (fun i hi => ?_)
            simp only [List.mem_cons, List.not_mem_nil, or_false] at hi
            obtain rfl := hi
            refine wpOp_step rfl (fun K' hK => ?_)
            go_simp
            refine (HR2.out _).mono ?_
            rintro e w6 ⟨s4, r1, r2, r3, r4, r5, r6, rfl, hv4, hb4, hs4⟩
            have hq4 := bthen HM5.out.2.2.2.1 hb4
            have HM6 := Lib.hid (And.intro (HM5.out.1.all hb4) (And.intro (HM5.out.2.1.below hb4) (And.intro (HM5.out.2.2.1.below hb4) hq4)))
            have hS6 := HSA.out _ hq4
            have hti := times_rr (frR fs i) (frR gs k) 60 60 t1 t4 r1 r4 t2 t5 r2 r5 t3 t6 r3 r6 w6 HM6.out.2.1 hv4 HB3.out.1 HB3.out.2 (by omega) (by omega)
            rw [← show s3 = decide ((frR fs i).num < 0) from HM5.out.2.2.2.2, ← show s4 = decide ((frR gs k).num < 0) from hs4, ← HPR.out] at hti
            have HTI := Lib.hid hti
            refine hK _ _ ⟨fun _ _ => hS6, trivial, ?_⟩
            clear hK hv4 hb4 hs4 hS5 HM5 hti hq4
            refine anyK_all (n := 2) (rs := [17]) (by kernel_rfl) (by simp) (fun i hi => ?_)
            simp only [List.mem_cons, List.not_mem_nil, or_false] at hi
            obtain rfl := hi
            refine wpOp_step rfl (fun K' hK => ?_)
            go_simp
            refine HTI.out.mono ?_
            rintro e w7 ⟨s5, y1, y2, y3, y4, y5, y6, rfl, hv5, hb5, hs5⟩
            have hq5 := bthen HM6.out.2.2.2 hb5
            have HM7 := Lib.hid (And.intro (HM6.out.1.all hb5) hq5)
            have hS7 := HSA.out _ hq5
            have hpl := plus_rr (gS pv pr (x + y) t) (pr t) 500000 120 q1 q2 y1 y4 e1 e2 y2 y5 l1 l2 y3 y6 w7 (HM6.out.2.2.1.below hb5) hv5 HB3t.out.1 HB3t.out.2 (by omega) (by omega)
            rw [HSG.out, ← hs5] at hpl
            have HPL := Lib.hid hpl
            refine hK _ _ ⟨fun _ _ => hS7, trivial, ?_⟩
            clear hK hv5 hb5 hs5 hS6 HM6 hpl HTI hq5
            refine anyK_all (n := 1) (rs := [18]) (by kernel_rfl) (by simp) (fun i hi => ?_)
            simp only [List.mem_cons, List.not_mem_nil, or_false] at hi
            obtain rfl := hi
            refine wpOp_step rfl (fun K' hK => ?_)
            go_simp
            refine HPL.out.mono ?_
            rintro e w8 ⟨s6, v1, v2, v3, v4, v5, v6, rfl, hv6, hb6, hs6⟩
            subst hs6
            have hq6 := bthen HM7.out.2 hb6
            have hS8 := HSA.out _ hq6
            obtain ⟨w9, hrun, hnx⟩ := (HM7.out.1.all hb6).next HPJ.out (by omega) hJ1 hJ2 ⟨v1, v3, v2, v4, v6, v5, rfl, hv6⟩
            obtain ⟨sz, hsz⟩ : ∃ sz, decide ((gS pv pr (x + y) t + pr t).num < 0) = sz := ⟨_, rfl⟩
            rw [hsz] at hrun ⊢
            have HNX := Lib.hid hnx
            refine hK _ _ ⟨fun _ _ => hS8, trivial, ?_⟩
            clear hK hv6 hb6 hS7 HM7 HPL hq6 hnx hsz
            refine anyK_all (n := 0) (rs := [19]) (by kernel_rfl) (by simp) (fun i hi => ?_)
            simp only [List.mem_cons, List.not_mem_nil, or_false] at hi
            obtain rfl := hi
            refine wpOp_step rfl (fun K' hK => ?_)
            go_simp
            refine hK _ _ ⟨fun h => absurd rfl h, trivial, ?_⟩
            clear hK hS8
            refine ⟨by kernel_rfl, ?_⟩
            go_wp2_with fail
            go_roundw
            case rel => exact ⟨k + 1, g, nn, cap, by omega, by go_num, rfl, Lib.hid (by rw [show i * n + (k + 1) = t + 1 by omega]; exact HNX.out)⟩
            case measure => simp [intOf]; omega
          · skip
            have hlk := HJT.out.map.no hJ1 hJ2 hin
            have hvs : vsT pv (t + 1) = vsT pv t ++ [x + y] := by rw [vsT, HPJ.out, if_neg hin]
            have hg0 : gS pv pr (x + y) t = 0 := gS_none hin
            have HVS := Lib.hid (And.intro hvs hg0)
            have hb12 : Below wr.heap.size wr (wr.alloc (.cells #[.bool false, .slice none 0 0, .slice none 0 0] 66)) := (Below.refl _ _).alloc (Nat.le_refl _) _
            have HQ0 := Lib.hid (show JpS w2 (wr.alloc (.cells #[.bool false, .slice none 0 0, .slice none 0 0] 66)) bm g nn cap pv pr t (vsT pv t) ∧ C3 (wr.alloc (.cells #[.bool false, .slice none 0 0, .slice none 0 0] 66)) wr.heap.size (.bool false) (.slice none 0 0) (.slice none 0 0) ∧ w2.heap.size ≤ wr.heap.size ∧ g < wr.heap.size ∧ bm < wr.heap.size from
              ⟨HJT.out.all hb12, C3.new wr _ _ _ _, HJT.out.bel.size, HJT.out.own.lt.2, HJT.out.map.lt⟩)
            clear hb12 hin hvs hg0
            go_wp2_with fail
            obtain ⟨b12, hb12⟩ : ∃ b, wr.heap.size = b := ⟨_, rfl⟩
            obtain ⟨w3, hw3⟩ : ∃ w', wr.alloc (.cells #[.bool false, .slice none 0 0, .slice none 0 0] 66) = w' := ⟨_, rfl⟩
            rw [hb12, hw3] at HQ0
            rw [hw3, hb12]
            clear hw3 hb12 hlk
            refine (whole_rr 0 w3 (by omega) (by omega)).mono ?_
            rintro e w4 ⟨s0, p1, p2, p3, p4, p5, p6, rfl, hr, hb, hs0⟩
            have hC4 := HQ0.out.2.1.all hb
            have hC5 := hC4
            obtain ⟨f0, f1, f2, f3, f4, f5, f6⟩ := hC5
            have hJ4 := (HQ0.out.1.all hb).put hC4 HQ0.out.2.2.1 HQ0.out.2.2.2.1 HQ0.out.2.2.2.2 (.bool s0) (.slice p1 p3 p2) (.slice p4 p6 p5)
            have hR4 : RBox (put3 w4 b12 (.bool s0) (.slice p1 p3 p2) (.slice p4 p6 p5)) b12 (gS pv pr (x + y) t) := by
              rw [HVS.out.2]
              rw [show s0 = decide ((0 : Rat).num < 0) from hs0]
              exact ⟨p1, p2, p3, p4, p5, p6, put3_box hC4 _ _ _, by have := hr.ints (put3_ints hC4 (.bool s0) (.slice p1 p3 p2) (.slice p4 p6 p5)); rw [show s0 = decide ((0 : Rat).num < 0) from hs0] at this; exact this⟩
            have hbz : Below (put3 w4 b12 (.bool s0) (.slice p1 p3 p2) (.slice p4 p6 p5)).heap.size (put3 w4 b12 (.bool s0) (.slice p1 p3 p2) (.slice p4 p6 p5)) ((put3 w4 b12 (.bool s0) (.slice p1 p3 p2) (.slice p4 p6 p5)).alloc (.cells #[.int .i64 (x + y)] 2)) := (Below.refl _ _).alloc (Nat.le_refl _) _
            have HP4 := Lib.hid (And.intro (hJ4.all hbz) (And.intro (hR4.all hbz) (show g ≠ b12 from Nat.ne_of_lt HQ0.out.2.2.2.1)))
            clear hr hb hs0 hC4 hJ4 hR4 hbz HQ0
            unfold put3 at HP4
            go_wp2_with (at_builtin; refine wpList_apI rfl (.tmp 57) (.tmp 61) 22 rfl w2.heap.size Tryz.underlying22 Tryz.infoI g nn cap (vsT pv t) rfl HP4.out.1.own _ (x + y) rfl (by go_simp) (by omega) HP4.out.1.bel.size ?_)
            intro g' cap' wq hown hgrow hat
            have HQS := Lib.hid (show JpS w2 wq bm g' (nn + 1) cap' pv pr t (vsT pv (t + 1)) ∧ RBox wq b12 (gS pv pr (x + y) t) from
              ⟨by rw [HVS.out.1]; exact HP4.out.1.push hown hgrow, HP4.out.2.1.kept hgrow (fun e => HP4.out.2.2 (Option.some.inj e).symm) (Dg.grown hgrow HP4.out.1.own.all)⟩)
            clear hown hgrow hat HP4 f0 f1 f2 f3 f4 f5 f6
            go_wp2_with fail
            obtain ⟨q1, e1, l1, q2, e2, l2, hC3, hRW⟩ := HQS.out.2
            obtain ⟨sg, hsg⟩ : ∃ sg, decide ((gS pv pr (x + y) t).num < 0) = sg := ⟨_, rfl⟩
            rw [hsg] at hC3
            have HSG := Lib.hid hsg
            have HC3 := Lib.hid hC3
            have HRW := Lib.hid (hRW.below (Below.refl _ wq).drew)
            obtain ⟨g2, o2, rfl, _, _⟩ := fr_at (H2.out.x2) hi
            obtain ⟨g4, o4, rfl, _, _⟩ := fr_at (H2.out.y2) hkn
            have HSA : Hid (∀ w', Below wq.heap.size wq w' → w'.cell? ⟨b12, 0, none⟩ = some (.bool sg) ∧ w'.cell? ⟨b12, 1, none⟩ = some (.slice q1 l1 e1) ∧ w'.cell? ⟨b12, 2, none⟩ = some (.slice q2 l2 e2) ∧ w'.cell? ⟨w.heap.size, 1, none⟩ = some (.slice (some ⟨g2, o2, none⟩) m c2) ∧ w'.cell? ⟨g2, o2 + i * 2, none⟩ = some (.int .i64 (frN fs i)) ∧ w'.cell? ⟨g2, o2 + i * 2 + 1, none⟩ = some (.int .i64 (frD fs i)) ∧ w'.cell? ⟨w.heap.size + 1, 1, none⟩ = some (.slice (some ⟨g4, o4, none⟩) n d2) ∧ w'.cell? ⟨g4, o4 + k * 2, none⟩ = some (.int .i64 (frN gs k)) ∧ w'.cell? ⟨g4, o4 + k * 2 + 1, none⟩ = some (.int .i64 (frD gs k))) := Lib.hid (by
              intro w' hb
              have hJ := H2.out.all (bthen HQS.out.1.bel hb)
              obtain ⟨g', o', e', c1', c2'⟩ := fr_at hJ.x2 hi
              obtain ⟨g'', o'', e'', c3', c4'⟩ := fr_at hJ.y2 hkn
              cases e'
              cases e''
              have hC := HC3.out.all hb
              exact ⟨hC.c0, hC.c1, hC.c2, hJ.b0.c1, c1', c2', hJ.b1.c1, c3', c4'⟩)
            have HM1 := Lib.hid (HQS.out.1.all (Below.refl _ wq).drew)
            have hS := HSA.out wq.drew (Below.refl _ wq).drew
            clear hsg hC3 hRW
            refine wp_region_any (by kernel_rfl) (any_of_K (k := 19) (S := fun w' => w'.cell? ⟨b12, 0, none⟩ = some (.bool sg) ∧ w'.cell? ⟨b12, 1, none⟩ = some (.slice q1 l1 e1) ∧ w'.cell? ⟨b12, 2, none⟩ = some (.slice q2 l2 e2) ∧ w'.cell? ⟨w.heap.size, 1, none⟩ = some (.slice (some ⟨g2, o2, none⟩) m c2) ∧ w'.cell? ⟨g2, o2 + i * 2, none⟩ = some (.int .i64 (frN fs i)) ∧ w'.cell? ⟨g2, o2 + i * 2 + 1, none⟩ = some (.int .i64 (frD fs i)) ∧ w'.cell? ⟨w.heap.size + 1, 1, none⟩ = some (.slice (some ⟨g4, o4, none⟩) n d2) ∧ w'.cell? ⟨g4, o4 + k * 2, none⟩ = some (.int .i64 (frN gs k)) ∧ w'.cell? ⟨g4, o4 + k * 2 + 1, none⟩ = some (.int .i64 (frD gs k))) (T := fun _ => True) _ _ _ _ ?_)
            refine anyT_take (i := 0) (n := 19) (v := .map (some bm)) rfl (by decide) (by kernel_rfl) (by kernel_rfl) (by kernel_rfl) (fun _ _ _ h => h) (Or.inl ⟨by kernel_rfl, fun w' hw => by go_simp⟩) hS trivial ?_
            refine anyT_take (i := 1) (n := 18) (v := .int .i64 x) rfl (by decide) (by kernel_rfl) (by kernel_rfl) (by kernel_rfl) (fun _ _ _ h => h) (Or.inl ⟨by kernel_rfl, fun w' hw => by go_simp⟩) hS trivial ?_
            refine anyT_take (i := 2) (n := 17) (v := .int .i64 y) rfl (by decide) (by kernel_rfl) (by kernel_rfl) (by kernel_rfl) (fun _ _ _ h => h) (Or.inl ⟨by kernel_rfl, fun w' hw => by go_simp⟩) hS trivial ?_
            refine anyT_take (i := 3) (n := 16) (v := .int .i64 (x + y)) rfl (by decide) (by kernel_rfl) (by kernel_rfl) (by kernel_rfl) (fun _ _ _ h => h) (Or.inl ⟨by kernel_rfl, fun w' hw => by go_simp⟩) hS trivial ?_
            refine anyK_take (i := 4) (n := 15) (v := .agg #[.bool sg, .slice q1 l1 e1, .slice q2 l2 e2]) rfl rfl (by kernel_rfl) (by kernel_rfl) (by kernel_rfl) (by kernel_rfl) (by kernel_rfl) (fun _ _ _ h => h) (Or.inl ⟨by kernel_rfl, fun w' hw => by (obtain ⟨z0, z1, z2, z3, z4, z5, z6, z7, z8⟩ := hw; go_simp)⟩) hS trivial ?_
            refine anyT_take (i := 5) (n := 14) (v := .pointer (some ⟨w.heap.size, 1, none⟩)) rfl (by decide) (by kernel_rfl) (by kernel_rfl) (by kernel_rfl) (fun _ _ _ h => h) (Or.inl ⟨by kernel_rfl, fun w' hw => by go_simp⟩) hS trivial ?_
            refine anyK_take (i := 6) (n := 13) (v := .slice (some ⟨g2, o2, none⟩) m c2) rfl rfl (by kernel_rfl) (by kernel_rfl) (by kernel_rfl) (by kernel_rfl) (by kernel_rfl) (fun _ _ _ h => h) (Or.inl ⟨by kernel_rfl, fun w' hw => by (obtain ⟨z0, z1, z2, z3, z4, z5, z6, z7, z8⟩ := hw; go_simp)⟩) hS trivial ?_
            refine anyT_take (i := 7) (n := 12) (v := .int .i64 (i : Nat)) rfl (by decide) (by kernel_rfl) (by kernel_rfl) (by kernel_rfl) (fun _ _ _ h => h) (Or.inl ⟨by kernel_rfl, fun w' hw => by go_simp⟩) hS trivial ?_
            refine anyT_take (i := 8) (n := 11) (v := .pointer (some ⟨g2, o2 + i * 2, none⟩)) rfl (by decide) (by kernel_rfl) (by kernel_rfl) (by kernel_rfl) (fun _ _ _ h => h) (Or.inl ⟨by kernel_rfl, fun w' hw => by go_simp⟩) hS trivial ?_
            refine anyK_take (i := 9) (n := 10) (v := .agg #[.int .i64 (frN fs i), .int .i64 (frD fs i)]) rfl rfl (by kernel_rfl) (by kernel_rfl) (by kernel_rfl) (by kernel_rfl) (by kernel_rfl) (fun _ _ _ h => h) (Or.inl ⟨by kernel_rfl, fun w' hw => by (obtain ⟨z0, z1, z2, z3, z4, z5, z6, z7, z8⟩ := hw; go_simp)⟩) hS trivial ?_
            refine anyT_take (i := 11) (n := 9) (v := .pointer (some ⟨w.heap.size + 1, 1, none⟩)) rfl (by decide) (by kernel_rfl) (by kernel_rfl) (by kernel_rfl) (fun _ _ _ h => h) (Or.inl ⟨by kernel_rfl, fun w' hw => by go_simp⟩) hS trivial ?_
            refine anyK_take (i := 12) (n := 8) (v := .slice (some ⟨g4, o4, none⟩) n d2) rfl rfl (by kernel_rfl) (by kernel_rfl) (by kernel_rfl) (by kernel_rfl) (by kernel_rfl) (fun _ _ _ h => h) (Or.inl ⟨by kernel_rfl, fun w' hw => by (obtain ⟨z0, z1, z2, z3, z4, z5, z6, z7, z8⟩ := hw; go_simp)⟩) hS trivial ?_
            refine anyT_take (i := 13) (n := 7) (v := .int .i64 (k : Nat)) rfl (by decide) (by kernel_rfl) (by kernel_rfl) (by kernel_rfl) (fun _ _ _ h => h) (Or.inl ⟨by kernel_rfl, fun w' hw => by go_simp⟩) hS trivial ?_
            refine anyT_take (i := 14) (n := 6) (v := .pointer (some ⟨g4, o4 + k * 2, none⟩)) rfl (by decide) (by kernel_rfl) (by kernel_rfl) (by kernel_rfl) (fun _ _ _ h => h) (Or.inl ⟨by kernel_rfl, fun w' hw => by go_simp⟩) hS trivial ?_
            refine anyK_take (i := 15) (n := 5) (v := .agg #[.int .i64 (frN gs k), .int .i64 (frD gs k)]) rfl rfl (by kernel_rfl) (by kernel_rfl) (by kernel_rfl) (by kernel_rfl) (by kernel_rfl) (fun _ _ _ h => h) (Or.inl ⟨by kernel_rfl, fun w' hw => by (obtain ⟨z0, z1, z2, z3, z4, z5, z6, z7, z8⟩ := hw; go_simp)⟩) hS trivial ?_
            refine anyK_all (n := 4) (rs := [10]) (by kernel_rfl) (by simp) (fun i hi => ?_)
            simp only [List.mem_cons, List.not_mem_nil, or_false] at hi
            obtain rfl := hi
            refine wpOp_step rfl (fun K' hK => ?_)
            go_simp
            refine (HR1.out _).mono ?_
            rintro e w5 ⟨s3, t1, t2, t3, t4, t5, t6, rfl, hv3, hb3, hs3⟩
            have hq3 : Below wq.heap.size wq w5 := bthen (Below.refl _ wq).drew hb3
            have HM5 := Lib.hid (And.intro (HM1.out.all hb3) (And.intro hv3 (And.intro (HRW.out.below hb3) (And.intro hq3 hs3))))
            have hS5 := HSA.out _ hq3
            refine hK _ _ ⟨fun _ _ => hS5, trivial, ?_⟩
            clear hK hv3 hb3 hs3 hS HM1 hq3 HRW
            refine anyK_all (n := 3) (rs := [16]) (by kernel_rfl) (by simp) (fun i hi => ?_)
            simp only [List.mem_cons, List.not_mem_nil, or_false] at hi
            obtain rfl := hi
            refine wpOp_step rfl (fun K' hK => ?_)
            go_simp
            refine (HR2.out _).mono ?_
            rintro e w6 ⟨s4, r1, r2, r3, r4, r5, r6, rfl, hv4, hb4, hs4⟩
            have hq4 := bthen HM5.out.2.2.2.1 hb4
            have HM6 := Lib.hid (And.intro (HM5.out.1.all hb4) (And.intro (HM5.out.2.1.below hb4) (And.intro (HM5.out.2.2.1.below hb4) hq4)))
            have hS6 := HSA.out _ hq4
            have hti := times_rr (frR fs i) (frR gs k) 60 60 t1 t4 r1 r4 t2 t5 r2 r5 t3 t6 r3 r6 w6 HM6.out.2.1 hv4 HB3.out.1 HB3.out.2 (by omega) (by omega)
            rw [← show s3 = decide ((frR fs i).num < 0) from HM5.out.2.2.2.2, ← show s4 = decide ((frR gs k).num < 0) from hs4, ← HPR.out] at hti
            have HTI := Lib.hid hti
            refine hK _ _ ⟨fun _ _ => hS6, trivial, ?_⟩
            clear hK hv4 hb4 hs4 hS5 HM5 hti hq4
            refine anyK_all (n := 2) (rs := [17]) (by kernel_rfl) (by simp) (fun i hi => ?_)
            simp only [List.mem_cons, List.not_mem_nil, or_false] at hi
            obtain rfl := hi
            refine wpOp_step rfl (fun K' hK => ?_)
            go_simp
            refine HTI.out.mono ?_
            rintro e w7 ⟨s5, y1, y2, y3, y4, y5, y6, rfl, hv5, hb5, hs5⟩
            have hq5 := bthen HM6.out.2.2.2 hb5
            have HM7 := Lib.hid (And.intro (HM6.out.1.all hb5) hq5)
            have hS7 := HSA.out _ hq5
            have hpl := plus_rr (gS pv pr (x + y) t) (pr t) 500000 120 q1 q2 y1 y4 e1 e2 y2 y5 l1 l2 y3 y6 w7 (HM6.out.2.2.1.below hb5) hv5 HB3t.out.1 HB3t.out.2 (by omega) (by omega)
            rw [HSG.out, ← hs5] at hpl
            have HPL := Lib.hid hpl
            refine hK _ _ ⟨fun _ _ => hS7, trivial, ?_⟩
            clear hK hv5 hb5 hs5 hS6 HM6 hpl HTI hq5
            refine anyK_all (n := 1) (rs := [18]) (by kernel_rfl) (by simp) (fun i hi => ?_)
            simp only [List.mem_cons, List.not_mem_nil, or_false] at hi
            obtain rfl := hi
            refine wpOp_step rfl (fun K' hK => ?_)
            go_simp
            refine HPL.out.mono ?_
            rintro e w8 ⟨s6, v1, v2, v3, v4, v5, v6, rfl, hv6, hb6, hs6⟩
            subst hs6
            have hq6 := bthen HM7.out.2 hb6
            have hS8 := HSA.out _ hq6
            obtain ⟨w9, hrun, hnx⟩ := (HM7.out.1.all hb6).next HPJ.out (by omega) hJ1 hJ2 ⟨v1, v3, v2, v4, v6, v5, rfl, hv6⟩
            obtain ⟨sz, hsz⟩ : ∃ sz, decide ((gS pv pr (x + y) t + pr t).num < 0) = sz := ⟨_, rfl⟩
            rw [hsz] at hrun ⊢
            have HNX := Lib.hid hnx
            refine hK _ _ ⟨fun _ _ => hS8, trivial, ?_⟩
            clear hK hv6 hb6 hS7 HM7 HPL hq6 hnx hsz
            refine anyK_all (n := 0) (rs := [19]) (by kernel_rfl) (by simp) (fun i hi => ?_)
            simp only [List.mem_cons, List.not_mem_nil, or_false] at hi
            obtain rfl := hi
            refine wpOp_step rfl (fun K' hK => ?_)
            go_simp
            refine hK _ _ ⟨fun h => absurd rfl h, trivial, ?_⟩
            clear hK hS8
            refine ⟨by kernel_rfl, ?_⟩
            go_wp2_with fail
            go_roundw
            case rel => exact ⟨k + 1, g', nn + 1, cap', by omega, by go_num, rfl, Lib.hid (by rw [show i * n + (k + 1) = t + 1 by omega]; exact HNX.out)⟩
            case measure => simp [intOf]; omega
        · obtain rfl : k = n := by omega
          have hkl : ¬ (k:Int) < (k:Int) := by omega
          go_wp2_with fail
          go_roundw
          case rel => exact ⟨i + 1, g, nn, cap, by omega, by go_num, rfl, Lib.hid (by rw [Nat.succ_mul]; exact HJ.out)⟩
          case measure => simp [intOf]; omega
    · obtain rfl : i = m := by omega
      have hil : ¬ (i:Int) < (i:Int) := by omega
      have hz : ∀ wx : World, LawAt wx w.heap.size (.slice none 0 0) (.slice none 0 0) [] [] := fun wx => ⟨⟨rfl, Or.inl ⟨rfl, rfl⟩⟩, ⟨rfl, Or.inl ⟨rfl, rfl⟩⟩, Or.inl rfl⟩
      have HZ := Lib.hid hz
      clear hz
      have HLEN := Lib.hid (show nn = (jV vs us i n).length from by
        have := HJ.out.len
        rw [vsT_setT_len] at this
        unfold jV
        rw [HDEF.out.1]; exact this.symm)
      have HNO0 := Lib.hid (show jOk vs fs us gs i n = false → ok = false ∧ RV = [] ∧ RF = [] from fun hk =>
        ⟨by rw [← HRES.out.1, hk], by rw [← HRES.out.2.1, hk]; rfl, by rw [← HRES.out.2.2, hk]; rfl⟩)
      obtain ⟨z0, z1, z2, z3, z4⟩ := (H2.out.all HJ.out.bel).b2
      by_cases hbig : 64 < nn
      · have hbi : (nn : Int) > 64 := by omega
        have HNO := Lib.hid (HNO0.out (by unfold jOk; rw [decide_eq_false (by rw [← HLEN.out]; omega)]; rfl))
        have HB := Lib.hid (bthen H2.out.bel HJ.out.bel)
        go_wp2_with fail
        refine bodyPost_ret (v := .tuple #[.agg #[.slice none 0 0, .slice none 0 0], .bool false]) (by simp [results, Tryz.results8, go_sem, *]) rfl ?_
        rw [HNO.out.1, HNO.out.2.1, HNO.out.2.2]
        exact ⟨_, _, rfl, HZ.out _, below_two HB.out (by omega) _ _⟩
      · have hbi : ¬ (nn : Int) > 64 := by omega
        go_wp2_with fail
        refine (jl_sort g nn cap _ _ wr HJ.out.own HJ.out.len (by omega)).mono ?_
        rintro e w5 ⟨rfl, hso, hgr⟩
        rw [sort_vsT] at hso
        have hlen : (setT pv (i * n)).length = nn := by rw [← vsT_setT_len]; exact HJ.out.len
        have hbel5 : Below w2.heap.size w2 w5 := HJ.out.bel.grown hgr HJ.out.bel.size (fun q hq => by cases hq; exact HJ.out.own.lt.1)
        have HM5 := Lib.hid (HJ.out.map.kept hgr (fun e => HJ.out.map.ne HJ.out.own (Option.some.inj e)) (Dg.grown hgr HJ.out.own.all))
        have HIN := Lib.hid (show ∀ z, z ∈ setT pv (i * n) → z ∈ vsT pv (i * n) ∧ -2000000000000000 ≤ z ∧ z ≤ 2000000000000000 from fun z hz => by
          obtain ⟨t, ht, e⟩ := mem_setT.1 hz
          refine ⟨mem_vsT.2 ⟨t, ht, e⟩, ?_⟩
          have := jpv_rng HQ.out.1 HQ.out.2 ht
          rw [HDEF.out.1, e] at this
          exact this)
        have HRD := Lib.hid (show (∀ k, jR vs fs us gs i n k = gS pv pr ((setT pv (i * n)).getD k 0) (i * n)) ∧ jV vs us i n = setT pv (i * n) from
          ⟨fun k => by unfold jR jV; rw [HDEF.out.1, HDEF.out.2], by unfold jV; rw [HDEF.out.1]⟩)
        obtain ⟨VS, hVS⟩ : ∃ VS, setT pv (i * n) = VS := ⟨_, rfl⟩
        rw [hVS] at hso hlen HIN HRD
        have hIX : IsInts w5 (some ⟨g, 0, none⟩) nn VS := IsInts.of_own hso
        have HO5 := Lib.hid (And.intro hso (And.intro hbel5 (And.intro hIX (And.intro hlen (H2.out.all hbel5)))))
        have hgl : g < w5.heap.size := (hso.lt g rfl).2
        clear hso hbel5 hIX hlen hVS hgr z0 z1 z2 z3 z4 HJ
        obtain ⟨R, hR⟩ : ∃ R, jR vs fs us gs i n = R := ⟨_, rfl⟩
        have HRR := Lib.hid hR
        rw [hR] at HRD
        clear hR
        have HRB := Lib.hid (show ∀ k, bitsR (R k) 500000 from fun k => by rw [HRD.out.1]; exact HPB.out.1 _ _ (Nat.le_refl _))
        have HC0 := Lib.hid (JcS.start w5 g nn cap)
        have hnl : (0 : Int) ≤ (nn : Int) := by omega
        go_wp2_with fail
        obtain ⟨b14, hb14⟩ : ∃ b, w5.heap.size = b := ⟨_, rfl⟩
        obtain ⟨w6, hw6⟩ : ∃ w', w5.alloc (.cells #[.slice (some ⟨g, 0, none⟩) nn cap, .slice none 0 0] 29) = w' := ⟨_, rfl⟩
        have HB14 := Lib.hid hb14
        rw [hw6, hb14] at HC0
        rw [hw6, hb14]
        clear hw6 hb14
        go_loopw [94] (fun c wx => ∃ (k : Nat) (C : Value), k ≤ nn ∧ c = .int .i64 (k : Nat) ∧ Hid (∀ q, q < k → fitR (R q) = true) ∧ Hid (JcS w5 wx b14 g nn cap k C (flR R k))) (fun c _ => nn - (intOf c).toNat)
        case atStart => exact ⟨0, _, Nat.zero_le _, rfl, Lib.hid (fun q hq => absurd hq (Nat.not_lt_zero q)), HC0⟩
        case round =>
          clear HC0
          obtain ⟨k, C, hkle, rfl, HF, HC⟩ := hrel
          obtain ⟨aC, cC, rfl⟩ := own_shape HC.out.cha
          by_cases hkn : k < nn
          · have hk0 : (0:Int) ≤ (k:Int) := by omega
            have hkl : (k:Int) < (nn:Int) := by omega
            obtain ⟨gz, oz, haz, hcz⟩ := (HO5.out.2.2.1.below HC.out.bel).at hkn
            cases haz
            simp only [Nat.zero_add] at hcz
            have hzi := HIN.out (VS.getD k 0) (by rw [getD_eq _ _ (by rw [HO5.out.2.2.2.1]; exact hkn)]; exact List.getElem_mem _)
            have hRk := HRD.out.1 k
            obtain ⟨z, hz⟩ : ∃ z, VS.getD k 0 = z := ⟨_, rfl⟩
            rw [hz] at hcz hzi hRk
            clear hz
            obtain ⟨v, _, hlk, hv⟩ := (HM5.out.below HC.out.bel).yes (j := z) (by omega) (by omega) hzi.1
            rw [show gS pv pr z (i * n) = R k from hRk.symm] at hv
            obtain ⟨q1, l1, e1, q2, l2, e2, rfl, hraw⟩ := hv
            have HFR := Lib.hid (fraction_rr (R k) 500000 q1 q2 e1 e2 l1 l2 wr hraw (HRB.out k) (by omega))
            obtain ⟨sg, hsg⟩ : ∃ sg, decide ((R k).num < 0) = sg := ⟨_, rfl⟩
            rw [hsg] at hlk HFR
            clear hsg hraw hRk hzi
            obtain ⟨z0, z1, z2, z3, z4⟩ := HO5.out.2.2.2.2.b2.all HC.out.bel
            cases hfit : fitR (R k) with
            | false =>
              rw [fracV_no hfit] at HFR
              have HNO := Lib.hid (HNO0.out (by
                unfold jOk
                rw [show fitT (jR vs fs us gs i n) (jV vs us i n).length = false from allB_no (show k < _ by rw [← HLEN.out]; exact hkn) (by rw [HRR.out]; exact hfit)]
                simp))
              clear hfit
              go_wp2_with fail
              refine HFR.out.mono ?_
              rintro e w7 ⟨rfl, hb⟩
              have hC7 := HC.out.all hb
              obtain ⟨f0, f1, f2, f3, f4⟩ := HO5.out.2.2.2.2.b2.all hC7.bel
              have HB := Lib.hid (bthen HO5.out.2.2.2.2.bel hC7.bel)
              clear hb hC7 z0 z1 z2 z3 z4
              go_wp2_with fail
              refine bodyPost_ret (v := .tuple #[.agg #[.slice none 0 0, .slice none 0 0], .bool false]) (by simp [results, Tryz.results8, go_sem, *]) rfl ?_
              rw [HNO.out.1, HNO.out.2.1, HNO.out.2.2]
              have hB := below_two HB.out (show w.heap.size ≤ w.heap.size + 1 + 1 by omega) (.slice none 0 0) (.slice none 0 0)
              exact ⟨_, _, rfl, HZ.out _, hB.alloc hB.size _⟩
            | true =>
              rw [fracV_yes hfit] at HFR
              have HF2 := Lib.hid (show ∀ q, q < k + 1 → fitR (R q) = true from fun q hq => by
                rcases Nat.lt_or_ge q k with h | h
                · exact HF.out q h
                · obtain rfl : q = k := by omega
                  exact hfit)
              have HFL := Lib.hid (show flR R (k + 1) = flR R k ++ [(R k).num, ((R k).den : Nat)] from rfl)
              obtain ⟨fp, hfp⟩ : ∃ fp, (R k).num = fp := ⟨_, rfl⟩
              obtain ⟨fq, hfq⟩ : ∃ fq : Int, (((R k).den : Nat) : Int) = fq := ⟨_, rfl⟩
              rw [hfp, hfq] at HFR HFL
              clear hfit hfp hfq
              go_wp2_with fail
              refine HFR.out.mono ?_
              rintro e w7 ⟨rfl, hb⟩
              have HC7 := Lib.hid ((HC.out.all hb).all ((Below.refl _ w7).alloc (Nat.le_refl _) (.cells #[.int .i64 fp, .int .i64 fq] 40)))
              have HC8 := Lib.hid (HC7.out.all ((Below.refl _ _).alloc (Nat.le_refl _) (.cells #[.int .i64 fp, .int .i64 fq] 40)))
              obtain ⟨f0, f1, f2, f3⟩ := pair_cells (show (w7.alloc (.cells #[.int .i64 fp, .int .i64 fq] 40)).heap[b14]? = _ from HC7.out.box)
              clear hb z0 z1 z2 z3 z4 hcz hlk
              go_wp2_with (at_builtin; refine wpList_ap2 rfl (.tmp 109) (.tmp 111) 27 rfl (b14 + 1) 40 (.agg #[.int .i64 0, .int .i64 0]) 16 Tryz.underlying27 Tryz.infoFr rfl _ k _ rfl HC8.out.cha _ (.int .i64 fp) (.int .i64 fq) rfl (by go_simp) (by go_simp) rfl rfl (by omega) (by omega) (by have := lt_of_heap HC8.out.box; omega) ?_)
              intro C' w9 hown hgrow hat
              obtain ⟨aC2, cC2, rfl⟩ := own_shape hown
              obtain ⟨f4, f5, f6, f7⟩ := pair_cells (show w9.heap[b14]? = _ from HC8.out.mid hgrow)
              have HC9 := Lib.hid (HC8.out.app hown hgrow)
              clear hown hgrow hat f0 f1 f2 f3
              go_wp2_with fail
              go_roundw
              case rel => exact ⟨k + 1, _, by omega, by go_num, HF2, Lib.hid (by rw [HFL.out]; exact HC9.out)⟩
              case measure => simp [intOf]; omega
          · obtain rfl : k = nn := by omega
            have hkl : ¬ (k:Int) < (k:Int) := by omega
            have HJF := Lib.hid (show jF vs fs us gs i n = flR R k by unfold jF; rw [← HLEN.out, HRR.out])
            have HVO := Lib.hid (validLaw_any (some ⟨g, 0, none⟩) aC k k cap cC VS (flR R k) wr (by omega) (by omega) (HO5.out.2.2.1.below HC.out.bel) (IsInts.of_own2 HC.out.cha))
            have HOK := Lib.hid (show jOk vs fs us gs i n = lawOk VS (flR R k) k k by
              unfold jOk
              rw [← HLEN.out, decide_eq_true (by omega), HRR.out, show fitT R k = true from allB_of HF.out, HRD.out.2, HJF.out]
              rfl)
            obtain ⟨f0, f1, f2, f3⟩ := pair_cells (show wr.heap[b14]? = _ from HC.out.box)
            cases hok : lawOk VS (flR R k) k k with
            | false =>
              rw [hok] at HVO
              have HNO := Lib.hid (HNO0.out (by rw [HOK.out, hok]))
              clear hok
              go_wp2_with fail
              refine HVO.out.mono ?_
              rintro e w7 ⟨rfl, hb⟩
              have hC7 := HC.out.all hb
              obtain ⟨z0, z1, z2, z3, z4⟩ := HO5.out.2.2.2.2.b2.all hC7.bel
              have HB := Lib.hid (bthen HO5.out.2.2.2.2.bel hC7.bel)
              clear hb hC7 f0 f1 f2 f3
              go_wp2_with fail
              refine bodyPost_ret (v := .tuple #[.agg #[.slice none 0 0, .slice none 0 0], .bool false]) (by simp [results, Tryz.results8, go_sem, *]) rfl ?_
              rw [HNO.out.1, HNO.out.2.1, HNO.out.2.2]
              exact ⟨_, _, rfl, HZ.out _, below_two HB.out (by omega) _ _⟩
            | true =>
              rw [hok] at HVO
              have HYES := Lib.hid (show ok = true ∧ RV = VS ∧ RF = flR R k from by
                have h0 : jOk vs fs us gs i n = true := by rw [HOK.out, hok]
                refine ⟨by rw [← HRES.out.1, h0], ?_, ?_⟩
                · rw [← HRES.out.2.1, h0, if_pos rfl, HRD.out.2]
                · rw [← HRES.out.2.2, h0, if_pos rfl, HJF.out])
              clear hok
              go_wp2_with fail
              refine HVO.out.mono ?_
              rintro e w7 ⟨rfl, hb⟩
              have hC7 := HC.out.all hb
              obtain ⟨z0, z1, z2, z3, z4⟩ := HO5.out.2.2.2.2.b2.all hC7.bel
              obtain ⟨f4, f5, f6, f7⟩ := pair_cells (show w7.heap[b14]? = _ from hC7.box)
              have hlaw : LawAt w7 w2.heap.size (.slice (some ⟨g, 0, none⟩) k cap) (.slice aC k cC) VS (flR R k) := by
                have h1 := own_below HO5.out.1 hC7.bel
                have h2 := own_mono hC7.cha (show w2.heap.size ≤ b14 + 1 by have := HO5.out.2.1.size; have := HB14.out; omega)
                refine ⟨by rw [HO5.out.2.2.2.1]; exact h1, by rw [HO5.out.2.2.2.1]; exact h2, Or.inr fun e => ?_⟩
                have := (hC7.cha.lt g e.symm).1
                have := HB14.out
                omega
              have hr2 : w.heap.size + 2 < w2.heap.size := H2.out.b2.lt
              have HG := Lib.hid (And.intro ((jl_box hlaw hr2).mono (show w.heap.size ≤ w2.heap.size by omega)) (bthen HO5.out.2.2.2.2.bel hC7.bel))
              clear hb hC7 f0 f1 f2 f3 hlaw
              go_wp2_with fail
              refine bodyPost_ret (v := .tuple #[.agg #[.slice (some ⟨g, 0, none⟩) k cap, .slice aC k cC], .bool true]) (by simp [results, Tryz.results8, go_sem, *]) rfl ?_
              rw [HYES.out.1, HYES.out.2.1, HYES.out.2.2]
              exact ⟨_, _, rfl, HG.out.1, below_two HG.out.2 (by omega) _ _⟩
end Go.Proofs.YtaneocedklnajaaGreat

import Derived.Test.YtaneocedklnajaaGreatFmA
import Derived.Test.YtaneocedklnajaaGreatSrc
/- The reference draws a small law. Condition: few bytes. -/
namespace Go.Proofs.YtaneocedklnajaaGreat
open Go.RowKit
set_option linter.unusedVariables false

theorem psum_app (cs : List Int) (x : Int) : ∀ m, m ≤ cs.length → psum (cs ++ [x]) m = psum cs m
  | 0, _ => rfl
  | m + 1, h => by rw [psum, psum, psum_app cs x m (by omega), getA (by omega)]
theorem psum_app1 (cs : List Int) (x : Int) : psum (cs ++ [x]) (cs.length + 1) = psum cs cs.length + x := by
  rw [psum, psum_app cs x _ (Nat.le_refl _), getB (Nat.le_refl _), Nat.sub_self]; rfl
/-- Weights and values as they are drawn. -/
structure DwQ (ws vs : List Int) (at_ : Int) (m : Nat) : Prop where
  lw : ws.length = m
  lv : vs.length = m
  hw : ∀ i, i < m → 1 ≤ ws.getD i 0 ∧ ws.getD i 0 ≤ 9
  hv : ∀ i, i < m → -4 ≤ vs.getD i 0 ∧ vs.getD i 0 < at_
  inc : ∀ i, i + 1 < m → vs.getD i 0 < vs.getD (i + 1) 0
  lo : -4 ≤ at_
  hi : at_ ≤ 3 + 4 * (m : Int)
  s0 : 0 ≤ psum ws m
  s1 : psum ws m ≤ 9 * (m : Int)
theorem DwQ.start {at_ : Int} (h1 : -4 ≤ at_) (h2 : at_ ≤ 3) : DwQ [] [] at_ 0 :=
  ⟨rfl, rfl, fun i hi => absurd hi (Nat.not_lt_zero _), fun i hi => absurd hi (Nat.not_lt_zero _), fun i hi => absurd hi (Nat.not_lt_zero _), h1, by simpa using h2, Int.le_refl _, by decide⟩
theorem DwQ.step {ws vs : List Int} {at_ x y : Int} {m : Nat} (h : DwQ ws vs at_ m) (hx : 1 ≤ x ∧ x ≤ 9) (hy : 1 ≤ y ∧ y ≤ 4) : DwQ (ws ++ [x]) (vs ++ [at_]) (at_ + y) (m + 1) := by
  have e := psum_app1 ws x
  rw [h.lw] at e
  have b1 := h.lo
  have b2 := h.hi
  have b3 := h.s0
  have b4 := h.s1
  have nw : (ws ++ [x]).getD m 0 = x := by rw [getB (by rw [h.lw]; exact Nat.le_refl _), h.lw, Nat.sub_self]; rfl
  have nv : (vs ++ [at_]).getD m 0 = at_ := by rw [getB (by rw [h.lv]; exact Nat.le_refl _), h.lv, Nat.sub_self]; rfl
  refine ⟨by simp [h.lw], by simp [h.lv], fun i hi => ?_, fun i hi => ?_, fun i hi => ?_, by omega, by omega, by rw [e]; omega, by rw [e]; omega⟩
  · rcases Nat.lt_or_ge i m with h1 | h1
    · rw [getA (by rw [h.lw]; exact h1)]; exact h.hw i h1
    · obtain rfl : i = m := by omega
      rw [nw]; exact hx
  · rcases Nat.lt_or_ge i m with h1 | h1
    · rw [getA (by rw [h.lv]; exact h1)]; have := h.hv i h1; omega
    · obtain rfl : i = m := by omega
      rw [nv]; omega
  · rw [getA (show i < vs.length by rw [h.lv]; omega)]
    rcases Nat.lt_or_ge (i + 1) m with h1 | h1
    · rw [getA (by rw [h.lv]; exact h1)]; exact h.inc i h1
    · obtain rfl : i + 1 = m := by omega
      rw [nv]
      exact (h.hv i (by omega)).2
theorem DwQ.sm {ws vs : List Int} {at_ : Int} {m all : Nat} (h : DwQ ws vs at_ m) (h1 : 1 ≤ m) (h5 : m ≤ 5) (hs : psum ws m = (all : Int)) : SmQ vs (flR (fun i => mkRat (ws.getD i 0) all) m) m := by
  have b := h.s1
  have b2 := h.hi
  have h0 := (psum_mono (cs := ws) (m := m) (fun i hi => by have := h.hw i hi; omega) 1 h1).2
  have h00 := h.hw 0 (by omega)
  rw [psum, psum] at h0
  exact sm_weights ⟨h1, by omega⟩ (fun i hi => (h.hw i hi).1) hs (by omega) (by omega) (fun i hi => by have := h.hv i hi; omega) h.inc
theorem fmAp {w0 wr w' : World} {l : List (Nat × (Obj → Prop))} {o : Obj} (h : OwnAt w0 wr l) (i : Nat) {g c k : Nat} {xs : List Int} {x : Int} (hi : l[i]? = some (g, rowO 2 c (xs.map (Value.int .i64)))) {v' : Value}
    (hown : w'.ownsRow w0.heap.size 2 1 v' (k + 1) (xs.map (Value.int .i64) ++ [.int .i64 x])) (hgrow : (wr.alloc o).grownBy w' (Value.ownBlock (.slice (some ⟨g, 0, none⟩) k c)))
    (hat : v'.ownBlock = Value.ownBlock (.slice (some ⟨g, 0, none⟩) k c) ∨ v'.ownBlock = some (wr.heap.size + 1)) :
    ∃ g' c', v' = .slice (some ⟨g', 0, none⟩) (k + 1) c' ∧ OwnAt w0 w' (l.set i (g', rowO 2 c' ((xs ++ [x]).map (Value.int .i64)))) := by
  obtain ⟨g', c', e, O⟩ := (h.1.alloc o).ap i hi hown hgrow (by rw [alloc_size]; exact hat)
  have hlo := (h.1.lt (List.mem_of_getElem? hi)).1
  refine ⟨g', c', e, by simpa using O, ((h.2.alloc h.2.size o).grown hgrow (by have := h.2.size; simp only [alloc_size]; omega) (fun j hj => by simp [Value.ownBlock] at hj; omega))⟩
theorem own_nM {w : World} {B E sz : Nat} {a : Option Addr} {n m c : Nat} {xs : List Value} (h : w.ownsRow B E sz (.slice a n c) n xs) (e : n = m) : w.ownsRow B E sz (.slice a m c) m xs := by rw [← e]; exact h
/-- What is drawn. -/
def RetSm (w0 : World) (e : Ending) (w' : World) : Prop := ∃ a1 c1 a2 c2 vs fs, e = .returned (.agg #[.slice a1 vs.length c1, .slice a2 vs.length c2]) ∧ LawAt w' w0.heap.size (.slice a1 vs.length c1) (.slice a2 vs.length c2) vs fs ∧ SmQ vs fs vs.length ∧ Below w0.heap.size w0 w'
def fmL (r b : Nat) (a : Option Addr) (len cap t : Nat) : List (Nat × (Obj → Prop)) := [(r, fun o => o = zeroLaw), (b, srcO a len cap t)]
def fmL4 (gw cw gv cv : Nat) (ws vs : List Int) (r b : Nat) (a : Option Addr) (len cap t : Nat) : List (Nat × (Obj → Prop)) := (gw, rowO 2 cw (ws.map (Value.int .i64))) :: (gv, rowO 2 cv (vs.map (Value.int .i64))) :: fmL r b a len cap t
theorem box_of {w0 w : World} {l : List (Nat × (Obj → Prop))} {r : Nat} (h : OwnAt w0 w l) (hm : (r, fun o => o = zeroLaw) ∈ l) : w.heap[r]? = some zeroLaw := by
  obtain ⟨_, o, ho, e⟩ := h.1.holds _ hm
  rw [ho]; exact congrArg some e
theorem fm_give {w0 w2 w3 : World} {r : Nat} {l : List (Nat × (Obj → Prop))} {V C : Value} {vs fs : List Int} (H2 : OwnAt w0 w2 l) (hm : (r, fun o => o = zeroLaw) ∈ l) (hL : LawAt w3 w2.heap.size V C vs fs) (hb : Below w2.heap.size w2 w3) :
    (w3.cell? ⟨r, 0, none⟩ = some (.slice none 0 0) ∧ w3.cell? ⟨r, 1, none⟩ = some (.slice none 0 0) ∧ w3.frozen? ⟨r, 0, none⟩ = false ∧ w3.frozen? ⟨r, 1, none⟩ = false) ∧
    LawAt ((w3.setCell ⟨r, 0, none⟩ V).setCell ⟨r, 1, none⟩ C) w0.heap.size V C vs fs ∧ Below w0.heap.size w0 ((w3.setCell ⟨r, 0, none⟩ V).setCell ⟨r, 1, none⟩ C) := by
  have h1 := box_of H2 hm
  have hr := lt_of_heap h1
  exact ⟨pair_cells ((hb.block r hr).trans h1), (law_box hL hr).mono H2.2.size, below_box (wA := w0) (bthen H2.2 hb) (H2.1.lt hm).1⟩
theorem fm_two {w0 w1 : World} {r b : Nat} {a : Option Addr} {len cap t : Nat} (h : OwnAt w0 w1 (fmL r b a len cap t)) : OwnAt w0 ((w1.alloc (.cells #[] 2)).alloc (.cells #[] 2)) (fmL4 w1.heap.size 0 (w1.heap.size + 1) 0 [] [] r b a len cap t) := by
  have e : ∀ o, o = Obj.cells #[] 2 → rowO 2 0 (([] : List Int).map (Value.int .i64)) o := fun o ho => ⟨#[], ho, rfl, by simp, by simp [maxLen], by simp⟩
  have o1 := h.new (e _ rfl)
  have o2 := o1.new (e _ rfl)
  rw [alloc_size] at o2
  exact ⟨o2.1.perm (List.Perm.swap _ _ _), o2.2⟩
theorem row_cellM {w : World} {g c i : Nat} {o : Obj} {xs : List Int} (h : w.heap[g]? = some o) (hr : rowO 2 c (xs.map (Value.int .i64)) o) (hi : i < xs.length) : w.cell? ⟨g, i, none⟩ = some (.int .i64 (xs.getD i 0)) := by
  have hO : Owns w 0 [(g, rowO 2 c (xs.map (Value.int .i64)))] := ⟨by simp, fun p hp => by
    rw [List.mem_singleton] at hp
    subst hp
    exact ⟨Nat.zero_le _, o, h, hr⟩⟩
  exact hO.intAt 0 rfl i hi
theorem fm_lo {w0 wr : World} {gw cw gv cv r b m t len cap : Nat} {a : Option Addr} {ws vs : List Int} (h : OwnAt w0 wr (fmL4 gw cw gv cv ws vs r b a len cap t)) (hm : vs.length = m) :
    w0.heap.size ≤ r ∧ ∃ ow, rowO 2 cw (ws.map (Value.int .i64)) ow ∧ LO w0 (wr.alloc (.cells #[.slice (some ⟨gv, 0, none⟩) m cv, .slice none 0 0] 29)) wr.heap.size [(r, zeroLaw), (gw, ow)] (.slice (some ⟨gv, 0, none⟩) m cv) (.slice none 0 0) (.slice (some ⟨gv, 0, none⟩) m cv) (.slice none 0 0) m 0 vs [] := by
  have hr1 := box_of h (r := r) (by simp [fmL4, fmL])
  have hlr := lt_of_heap hr1
  have hr0 := (h.1.lt (p := (r, fun o => o = zeroLaw)) (by simp [fmL4, fmL])).1
  obtain ⟨_, ow, how, hrow⟩ := h.1.holds (gw, rowO 2 cw (ws.map (Value.int .i64))) (by simp [fmL4])
  have hlw := lt_of_heap how
  obtain ⟨_, ov, hov, _⟩ := h.1.holds (gv, rowO 2 cv (vs.map (Value.int .i64))) (by simp [fmL4])
  have hlv := lt_of_heap hov
  have hnd := h.1.nd
  simp only [fmL4, fmL, List.map_cons, List.map_nil, List.nodup_cons, List.mem_cons, List.not_mem_nil, or_false, not_or] at hnd
  have hA : Below wr.heap.size wr (wr.alloc (.cells #[.slice (some ⟨gv, 0, none⟩) m cv, .slice none 0 0] 29)) := (Below.refl _ _).alloc (Nat.le_refl _) _
  simp only at hrow how hov
  refine ⟨hr0, ow, hrow, heap_at_new _ _, fun x hx => ?_, own_nM ((h.1.alloc _).rowAt 1 rfl).1 (by simpa using hm), ⟨rfl, Or.inl ⟨rfl, rfl⟩⟩, Or.inr (by simp [Value.ownBlock]), bthen h.2 hA, ?_, by simp [Value.ownBlock], h.2.size⟩
  · rcases List.mem_cons.1 hx with e | hx
    · subst e
      exact ⟨(hA.block r hlr).trans hr1, by simp only [Value.ownBlock]; intro e; injection e with e; exact hnd.2.1.1 e, by simp [Value.ownBlock], by show r ≠ wr.heap.size; omega⟩
    · rw [List.mem_singleton] at hx
      subst hx
      exact ⟨(hA.block gw hlw).trans how, by simp only [Value.ownBlock]; intro e; injection e with e; exact hnd.1.1 e.symm, by simp [Value.ownBlock], by show gw ≠ wr.heap.size; omega⟩
  · simp only [Value.ownBlock]; intro e; injection e with e; omega
set_option maxRecDepth 100000 in
set_option maxHeartbeats 3200000 in
theorem l05DrawOk_any (b : Nat) (a : Option Addr) (len cap : Nat) (zs : List Int) (w0 w : World) (h : OwnAt w0 w [(b, srcO a len cap 0)]) (hx : IsU8s w0 a len zs) (hl : len < 1000000000) :
    Calls Tryz.prog 45 #[.pointer (some ⟨b, 0, none⟩)] w (RetSm w0) := by
  have H0 := Lib.hid (show OwnAt w0 (w.alloc zeroLaw) (fmL w.heap.size b a len cap 0) from h.new (φ := fun o => o = zeroLaw) rfl)
  have HX := Lib.hid hx
  clear h hx
  go_enter Tryz.func45, Tryz.ntmps45
  go_wp2_with fail
  obtain ⟨r, hr⟩ : ∃ r, w.heap.size = r := ⟨_, rfl⟩
  obtain ⟨wA, hwA⟩ : ∃ w', w.alloc zeroLaw = w' := ⟨_, rfl⟩
  rw [hwA, hr] at H0
  unfold zeroLaw at hwA
  rw [hwA]
  try rw [hr]
  clear hwA hr
  refine (srcPick_any 1 5 b a len cap 0 zs w0 wA _ H0.out rfl HX.out (by omega) hl (by omega)).mono ?_
  rintro e w1 ⟨x, t1, rfl, hx0, hx1, ht0, ht1, h1⟩
  have H1 := Lib.hid (show OwnAt w0 w1 (fmL r b a len cap t1) from h1)
  clear h1 H0
  by_cases e0 : x = 0
  · subst e0
    go_wp2_with fail
    refine (srcPick_any 1 12 b a len cap t1 zs w0 w1 _ H1.out rfl HX.out (by omega) hl (by omega)).mono ?_
    rintro e w2 ⟨x, t2, rfl, hx0, hx1, ht0, ht1, h2⟩
    have H2 := Lib.hid (show OwnAt w0 w2 (fmL r b a len cap t2) from h2)
    clear h2 H1
    obtain ⟨n, hn⟩ : ∃ n : Nat, 1 + x = (n : Int) := ⟨(1 + x).toNat, by omega⟩
    have hnw : IntKind.i64.wrap (1 + x) = (n : Int) := by rw [hn]; exact IntWalk.i64_in _ (by omega)
    have hn12 : n ≤ 12 := by omega
    go_wp2_with fail
    refine (l05Ones_any n _ (by omega)).mono ?_
    rintro e w3 ⟨V, C, rfl, hL, hb⟩
    obtain ⟨a1, c1, rfl⟩ := own_shape hL.val
    obtain ⟨a2, c2, rfl⟩ := own_shape hL.cha
    have hG := fm_give H2.out (r := r) List.mem_cons_self hL hb
    obtain ⟨q1, q2, q3, q4⟩ := hG.1
    have HF := Lib.hid (And.intro hG.2 (sm_ones hn12))
    clear hG hL hb H2
    go_wp2_with fail
    refine bodyPost_ret (v := .agg #[.slice a1 _ c1, .slice a2 _ c2]) (by simp [results, Tryz.results45, go_sem, *]) rfl ⟨_, _, _, _, _, _, rfl, HF.out.1.1, HF.out.2, HF.out.1.2⟩
  · by_cases e1 : x = 1
    · subst e1
      go_wp2_with fail
      refine (srcPick_any 1 12 b a len cap t1 zs w0 w1 _ H1.out rfl HX.out (by omega) hl (by omega)).mono ?_
      rintro e w2 ⟨x, t2, rfl, hx0, hx1, ht0, ht1, h2⟩
      have H2 := Lib.hid (show OwnAt w0 w2 (fmL r b a len cap t2) from h2)
      clear h2 H1
      obtain ⟨n, hn⟩ : ∃ n : Nat, 1 + x = (n : Int) := ⟨(1 + x).toNat, by omega⟩
      have hnw : IntKind.i64.wrap (1 + x) = (n : Int) := by rw [hn]; exact IntWalk.i64_in _ (by omega)
      have hn12 : n ≤ 12 := by omega
      have hn1 : 1 ≤ n := by omega
      go_wp2_with fail
      refine (l05Runs_any n _ (by omega) hn1).mono ?_
      rintro e w3 ⟨V, C, rfl, hL, hb⟩
      obtain ⟨a1, c1, rfl⟩ := own_shape hL.val
      obtain ⟨a2, c2, rfl⟩ := own_shape hL.cha
      have hG := fm_give H2.out (r := r) List.mem_cons_self hL hb
      obtain ⟨q1, q2, q3, q4⟩ := hG.1
      have HF := Lib.hid (And.intro hG.2 (sm_runs hn12 hn1))
      clear hG hL hb H2
      go_wp2_with fail
      refine bodyPost_ret (v := .agg #[.slice a1 _ c1, .slice a2 _ c2]) (by simp [results, Tryz.results45, go_sem, *]) rfl ⟨_, _, _, _, _, _, rfl, HF.out.1.1, HF.out.2, HF.out.1.2⟩
    · go_wp2_with fail
      have H2 := Lib.hid (fm_two H1.out)
      obtain ⟨gw, hgw⟩ : ∃ g, w1.heap.size = g := ⟨_, rfl⟩
      obtain ⟨gv, hgv⟩ : ∃ g, w1.heap.size + 1 = g := ⟨_, rfl⟩
      obtain ⟨wB, hwB⟩ : ∃ w', (w1.alloc (.cells #[] 2)).alloc (.cells #[] 2) = w' := ⟨_, rfl⟩
      rw [hwB, hgv, hgw] at H2
      rw [hwB, hgv, hgw]
      clear hwB hgv hgw H1
      refine (srcPick_any 3 8 b a len cap t1 zs w0 wB _ H2.out rfl HX.out (by omega) hl (by omega)).mono ?_
      rintro e w2 ⟨z, t2, rfl, hz0, hz1, hu0, hu1, h2⟩
      have H3 := Lib.hid (show OwnAt w0 w2 (fmL4 gw 0 gv 0 [] [] r b a len cap t2) from h2)
      clear h2 H2
      have hzw : IntKind.i64.wrap (z - 4) = z - 4 := IntWalk.i64_in _ (by omega)
      go_wp2_with fail
      refine (srcPick_any 3 5 b a len cap t2 zs w0 w2 _ H3.out rfl HX.out (by omega) hl (by omega)).mono ?_
      rintro e w3 ⟨y, t3, rfl, hy0, hy1, hs0, hs1, h2⟩
      have H4 := Lib.hid (And.intro (DwQ.start (at_ := z - 4) (by omega) (by omega)) (And.intro (show psum [] 0 = 0 from rfl) (show OwnAt w0 w3 (fmL4 gw 0 gv 0 [] [] r b a len cap t3) from h2)))
      clear h2 H3
      obtain ⟨K, hK⟩ : ∃ n : Nat, 1 + y = (n : Int) := ⟨(1 + y).toNat, by omega⟩
      have hKw : IntKind.i64.wrap (1 + y) = (K : Int) := by rw [hK]; exact IntWalk.i64_in _ (by omega)
      have hK5 : K ≤ 5 := by omega
      have hK1 : 1 ≤ K := by omega
      obtain ⟨A0, hA0⟩ : ∃ A, z - 4 = A := ⟨_, rfl⟩
      rw [hA0] at H4 ⊢
      clear hzw
      have ht3 : t3 ≤ 6 := by omega
      clear hA0 hK hy0 hy1 hz0 hz1 hs0 hs1 hu0 hu1 ht0 ht1 hx0 hx1
      go_wp2_with fail
      go_loopw [7, 3, 4, 5, 6] (fun k v3 v4 v5 v6 wr => ∃ (q m gw cw gv cv t : Nat) (ws vs : List Int) (A S : Int), k = .int .i64 (q : Nat) ∧ m + q = K ∧ v3 = .slice (some ⟨gw, 0, none⟩) m cw ∧ v4 = .slice (some ⟨gv, 0, none⟩) m cv ∧ v5 = .int .i64 S ∧ v6 = .int .i64 A ∧ t ≤ 6 + 4 * m ∧ Hid (DwQ ws vs A m ∧ psum ws m = S ∧ OwnAt w0 wr (fmL4 gw cw gv cv ws vs r b a len cap t))) (fun k _ _ _ _ _ => (intOf k).toNat)
      case atStart => exact ⟨K, 0, gw, 0, gv, 0, t3, [], [], A0, 0, rfl, by omega, rfl, rfl, rfl, rfl, ht3, H4⟩
      case round =>
        clear H4
        obtain ⟨q, m, gw, cw, gv, cv, t, ws, vs, A, S, rfl, hmq, rfl, rfl, rfl, rfl, ht, HL⟩ := hrel
        have a1 := HL.out.1.lo
        have a2 := HL.out.1.hi
        have a3 := HL.out.1.s0
        have a4 := HL.out.1.s1
        rw [HL.out.2.1] at a3 a4
        by_cases hq : 0 < q
        · have hqi : (0:Int) < (q:Int) := by omega
          go_wp2_with fail
          refine (srcPick_any 3 9 b a len cap t zs w0 wr _ HL.out.2.2 rfl HX.out (by omega) hl (by omega)).mono ?_
          rintro e w4 ⟨x9, t4, rfl, hx0, hx1, ht0, ht1, h2⟩
          have H5 := Lib.hid (show OwnAt w0 w4 (fmL4 gw cw gv cv ws vs r b a len cap t4) from h2)
          have HD := Lib.hid (And.intro HL.out.1 HL.out.2.1)
          clear h2 HL
          have hxw : IntKind.i64.wrap (1 + x9) = 1 + x9 := IntWalk.i64_in _ (by omega)
          have hsw : IntKind.i64.wrap (S + (1 + x9)) = S + (1 + x9) := IntWalk.i64_in _ (by omega)
          have LW := Lib.hid HD.out.1.lw
          have LV := Lib.hid HD.out.1.lv
          go_wp2_with (at_builtin; refine wpList_ap1 rfl (.tmp 40) (.tmp 42) 22 rfl w0.heap.size 2 (.int .i64 0) 8 Tryz.underlying22 Tryz.infoI rfl _ m _ rfl (own_nM ((H5.out.1.alloc _).rowAt 0 rfl).1 (by simpa using LW.out)) w4.heap.size (.int .i64 (1 + x9)) rfl (by go_simp) rfl (by omega) (by omega) (by have := H5.out.2.size; simp only [alloc_size]; omega) ?_)
          intro v' w5 hown hgrow hat
          obtain ⟨gw2, cw2, rfl, O1⟩ := fmAp H5.out 0 rfl hown hgrow hat
          have H6 := Lib.hid (show OwnAt w0 w5 (fmL4 gw2 cw2 gv cv (ws ++ [1 + x9]) vs r b a len cap t4) from O1)
          clear hown hgrow hat O1 H5
          go_wp2_with (at_builtin; refine wpList_ap1 rfl (.tmp 44) (.tmp 46) 22 rfl w0.heap.size 2 (.int .i64 0) 8 Tryz.underlying22 Tryz.infoI rfl _ m _ rfl (own_nM ((H6.out.1.alloc _).rowAt 1 rfl).1 (by simpa using LV.out)) w5.heap.size (.int .i64 A) rfl (by go_simp) rfl (by omega) (by omega) (by have := H6.out.2.size; simp only [alloc_size]; omega) ?_)
          intro v' w6 hown hgrow hat
          obtain ⟨gv2, cv2, rfl, O1⟩ := fmAp H6.out 1 rfl hown hgrow hat
          have H7 := Lib.hid (show OwnAt w0 w6 (fmL4 gw2 cw2 gv2 cv2 (ws ++ [1 + x9]) (vs ++ [A]) r b a len cap t4) from O1)
          clear hown hgrow hat O1 H6
          go_wp2_with fail
          refine (srcPick_any 3 4 b a len cap t4 zs w0 w6 _ H7.out rfl HX.out (by omega) hl (by omega)).mono ?_
          rintro e w7 ⟨y4, t5, rfl, hy0, hy1, hs0, hs1, h2⟩
          have hps : psum (ws ++ [1 + x9]) (m + 1) = S + (1 + x9) := by
            have e := psum_app1 ws (1 + x9)
            rw [LW.out, HD.out.2] at e
            exact e
          have H8 := Lib.hid (And.intro (HD.out.1.step (x := 1 + x9) (y := 1 + y4) (by omega) (by omega)) (And.intro hps (show OwnAt w0 w7 (fmL4 gw2 cw2 gv2 cv2 (ws ++ [1 + x9]) (vs ++ [A]) r b a len cap t5) from h2)))
          clear h2 H7 HD hps
          have hyw : IntKind.i64.wrap (1 + y4) = 1 + y4 := IntWalk.i64_in _ (by omega)
          have haw : IntKind.i64.wrap (A + (1 + y4)) = A + (1 + y4) := IntWalk.i64_in _ (by omega)
          go_wp2_with fail
          go_roundw
          case rel => exact ⟨q - 1, m + 1, gw2, cw2, gv2, cv2, t5, _, _, _, _, by go_num, by omega, rfl, rfl, rfl, rfl, by omega, H8⟩
          case measure => simp [intOf]; omega
        · have hqi : ¬ (0:Int) < (q:Int) := by omega
          obtain rfl : m = K := by omega
          clear hmq hq
          obtain ⟨hr0, ow, hrow, hLO⟩ := fm_lo HL.out.2.2 HL.out.1.lv
          obtain ⟨all, hall⟩ : ∃ n : Nat, S = (n : Int) := ⟨S.toNat, by omega⟩
          have HS := Lib.hid (HL.out.1.sm (all := all) (by omega) (by omega) (HL.out.2.1.trans hall))
          have HD := Lib.hid (And.intro HL.out.1 hrow)
          have hap : 0 < all := by
            have h0 := (psum_mono (cs := ws) (m := m) (fun i hi => by have := HL.out.1.hw i hi; omega) 1 (by omega)).2
            have h00 := HL.out.1.hw 0 (by omega)
            rw [psum, psum, HL.out.2.1] at h0
            omega
          have hal : all ≤ 45 := by omega
          subst hall
          have H5 := Lib.hid hLO
          have HR0 := Lib.hid hr0
          clear HL hrow hLO hr0 a1 a2 a3 a4
          go_wp2_with fail
          obtain ⟨bx, hbx⟩ : ∃ g, wr.heap.size = g := ⟨_, rfl⟩
          obtain ⟨wC, hwC⟩ : ∃ w', wr.alloc (.cells #[.slice (some ⟨gv, 0, none⟩) m cv, .slice none 0 0] 29) = w' := ⟨_, rfl⟩
          rw [hwC, hbx] at H5
          rw [hwC]
          try rw [hbx]
          clear hwC hbx
          go_loopw [10] (fun i wy => ∃ (n : Nat) (C : Value), n ≤ m ∧ i = .int .i64 (n : Nat) ∧ Hid (LO w0 wy bx [(r, zeroLaw), (gw, ow)] (.slice (some ⟨gv, 0, none⟩) m cv) C (.slice (some ⟨gv, 0, none⟩) m cv) C m n vs (flR (fun i => mkRat (ws.getD i 0) all) n))) (fun i _ => m - (intOf i).toNat)
          case atStart => exact ⟨0, _, Nat.zero_le _, rfl, H5⟩
          case round =>
            clear H5
            obtain ⟨n, C, hn, rfl, HL⟩ := hrel
            obtain ⟨ac, cc, rfl⟩ := own_shape HL.out.cha
            obtain ⟨q1, q2, q3, q4⟩ := HL.out.cells
            by_cases hlt : n < m
            · have hni : (n:Int) < (m:Int) := by omega
              have hn0 : (0:Int) ≤ (n:Int) := by omega
              have hcm := row_cellM (HL.out.keep (gw, ow) (by simp)).1 HD.out.2 (show n < ws.length by rw [HD.out.1.lw]; exact hlt)
              have hc9 := HD.out.1.hw n hlt
              have HNX := Lib.hid (show flR (fun i => mkRat (ws.getD i 0) all) (n + 1) = flR (fun i => mkRat (ws.getD i 0) all) n ++ [(mkRat (ws.getD n 0) all).num, (((mkRat (ws.getD n 0) all).den : Nat) : Int)] from rfl)
              obtain ⟨c, hc⟩ : ∃ c, ws.getD n 0 = c := ⟨_, rfl⟩
              rw [hc] at hcm hc9 HNX
              have HQ := Lib.hid (fun (w : World) => l01FMake_any c all w (by omega) (by omega) (by omega) hap)
              obtain ⟨p, hp⟩ : ∃ p, (mkRat c all).num = p := ⟨_, rfl⟩
              obtain ⟨q, hq⟩ : ∃ q : Int, (((mkRat c all).den : Nat) : Int) = q := ⟨_, rfl⟩
              rw [hp, hq] at HNX HQ
              clear hp hq hc hc9
              have HL1 := HL
              clear HL
              go_wp2_with fail
              go_region_law (first
                | (go_simp; go_at_call 87; refine (HQ.out _).mono ?_; rintro e w9 ⟨rfl, hb9⟩; obtain ⟨s1, s2, s3, s4⟩ := (HL1.out.below (bthen (drewN_below _ 1) hb9)).cells; have sa : ∀ o, (w9.alloc o).cell? ⟨bx, 1, none⟩ = some (.slice ac n cc) := fun o => ((HL1.out.below (bthen (drewN_below _ 1) hb9)).below ((Below.refl _ _).alloc (Nat.le_refl _) o)).cells.2.1)
                | (refine step_ap2 rfl (.tmp 65) (.tmp 72) 27 rfl w0.heap.size 40 (.agg #[.int .i64 0, .int .i64 0]) 16 Tryz.underlying27 Tryz.infoFr rfl _ n _ rfl ((HL1.out.below (bthen (drewN_below _ 1) hb9)).below ((Below.refl _ w9).alloc (Nat.le_refl _) (.cells #[.int .i64 p, .int .i64 q] 40))).cha _ (.int .i64 p) (.int .i64 q) rfl (by go_simp) (by go_simp) rfl rfl (by omega) (by omega) ((HL1.out.below (bthen (drewN_below _ 1) hb9)).below ((Below.refl _ w9).alloc (Nat.le_refl _) (.cells #[.int .i64 p, .int .i64 q] 40))).bel.size ?_; intro c6 w7 hown2 hgrow2 hat2; obtain ⟨ac6, cc6, rfl⟩ := own_shape hown2; have L2 := ((HL1.out.below (bthen (drewN_below _ 1) hb9)).below ((Below.refl _ w9).alloc (Nat.le_refl _) (.cells #[.int .i64 p, .int .i64 q] 40))).pushC hown2 hgrow2 hat2; obtain ⟨t1, t2, t3, t4⟩ := L2.cells))
              all_goals
                have HL3 := Lib.hid L2.storeC
                clear L2 hown2 hgrow2 hat2 hb9 s1 s2 s3 s4 sa t1 t2 t3 t4 q1 q2 q3 q4 hcm
                go_wp2
                go_roundw
                case rel => exact ⟨n + 1, _, by omega, by go_num, Lib.hid (by rw [HNX.out]; exact HL3.out)⟩
                case measure => simp [intOf]; omega
            · obtain rfl : n = m := by omega
              obtain ⟨r1, r2, r3, r4⟩ := pair_cells (HL.out.keep _ List.mem_cons_self).1
              have LV := HD.out.1.lv
              have HG := Lib.hid (HL.out.give HR0.out LV.symm LV.symm)
              have HLV := Lib.hid LV
              clear HL LV
              go_wp2_with fail
              refine bodyPost_ret (v := .agg #[.slice (some ⟨gv, 0, none⟩) n cv, .slice ac n cc]) (by simp [results, Tryz.results45, go_sem, *]) rfl ?_
              refine ⟨_, _, _, _, vs, flR (fun i => mkRat (ws.getD i 0) all) n, by rw [HLV.out], ?_, ?_, HG.out.2⟩
              · rw [HLV.out]; exact HG.out.1
              · rw [HLV.out]; exact HS.out
theorem specB10Law_any (a : Option Addr) (len cap : Nat) (zs : List Int) (w : World) (hx : IsU8s w a len zs) (hl : len < 1000000000) :
    Calls Tryz.prog 13 #[.slice a len cap] w (RetSm w) := by
  have e1 : (w.alloc zeroLaw).heap.size = w.heap.size + 1 := alloc_size _ _
  have h0 : OwnAt w (w.alloc zeroLaw) [(w.heap.size, fun o => o = zeroLaw)] := ⟨(Owns.nil w w.heap.size).new (Nat.le_refl _) rfl, (Below.refl _ _).alloc (Nat.le_refl _) _⟩
  have h1 : OwnAt w ((w.alloc zeroLaw).alloc (.cells #[.slice a len cap, .int .i64 0, .int .u64 0] 114)) [(w.heap.size + 1, srcO a len cap 0), (w.heap.size, fun o => o = zeroLaw)] := by
    have := h0.new (o := .cells #[.slice a len cap, .int .i64 0, .int .u64 0] 114) (srcO_new a len cap)
    rw [e1] at this
    exact this
  have hd := l05DrawOk_any (w.heap.size + 1) a len cap zs (w.alloc zeroLaw) ((w.alloc zeroLaw).alloc (.cells #[.slice a len cap, .int .i64 0, .int .u64 0] 114)) (by
    have o := ((Owns.nil (w.alloc zeroLaw) (w.alloc zeroLaw).heap.size).new (o := .cells #[.slice a len cap, .int .i64 0, .int .u64 0] 114) (Nat.le_refl _) (srcO_new a len cap))
    rw [e1] at o
    exact ⟨by rw [e1]; exact o, (Below.refl _ _).alloc (Nat.le_refl _) _⟩) (hx.below h0.2) hl
  have HD := Lib.hid hd
  have H0 := Lib.hid h0
  clear hd h0 h1 hx
  go_enter Tryz.func13, Tryz.ntmps13
  go_wp2_with fail
  obtain ⟨r, hr⟩ : ∃ r, w.heap.size = r := ⟨_, rfl⟩
  obtain ⟨wA, hwA⟩ : ∃ w', w.alloc zeroLaw = w' := ⟨_, rfl⟩
  have hsz : wA.heap.size = r + 1 := by rw [← hwA, ← hr]; exact e1
  rw [hwA] at HD e1
  rw [hwA] at H0
  have HR := Lib.hid hr
  rw [hr] at HD
  unfold zeroLaw at hwA
  rw [hwA]
  try rw [hr]
  clear hwA hr e1
  refine (srcFrom_any _ _ _ _).mono ?_
  rintro e w1 ⟨rfl, rfl⟩
  rw [hsz]
  clear hsz
  go_wp2_with fail
  refine HD.out.mono ?_
  rintro e w2 ⟨a1, c1, a2, c2, vs, fs, rfl, hL, hs, hb⟩
  have hG := fm_give H0.out (r := w.heap.size) List.mem_cons_self hL hb
  rw [HR.out] at hG
  obtain ⟨q1, q2, q3, q4⟩ := hG.1
  have HF := Lib.hid (And.intro hG.2 hs)
  clear hG hL hb hs HD H0
  go_wp2_with fail
  refine bodyPost_ret (v := .agg #[.slice a1 vs.length c1, .slice a2 vs.length c2]) (by simp [results, Tryz.results13, go_sem, *]) rfl ⟨_, _, _, _, vs, fs, rfl, by rw [HR.out]; exact HF.out.1.1, HF.out.2, by rw [HR.out]; exact HF.out.1.2⟩
end Go.Proofs.YtaneocedklnajaaGreat

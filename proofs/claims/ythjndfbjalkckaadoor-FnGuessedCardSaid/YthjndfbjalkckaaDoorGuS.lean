import Derived.Test.YthjndfbjalkckaaDoorGuD
import Derived.Test.YthjndfbjalkckaaDoorSrc
/- What the law on guessed congruences draws and asks. Condition: the bytes drawn from are few. -/
namespace Go.Proofs.YthjndfbjalkckaaDoor
open Go.RowKit
set_option linter.unusedVariables false

theorem srcOne_any (i : Nat) (n : Int) (b : Nat) (a : Option Addr) (len cap t : Nat) (zs : List Int) (w0 w : World) (l : List (Nat × (Obj → Prop))) (h : OwnAt w0 w l) (hi : l[i]? = some (b, srcO a len cap t)) (hx : IsU8s w0 a len zs) (ht : t < 900000000) (hl : len < 1000000000) (hn : n ≤ 1000000000000000000) :
    Calls Tryd.prog 46 #[.pointer (some ⟨b, 0, none⟩), .int .i64 n] w fun e w' => ∃ c t', e = .returned (.bool c) ∧ t ≤ t' ∧ t' ≤ t + 2 ∧ OwnAt w0 w' (l.set i (b, srcO a len cap t')) := by
  have H := Lib.hid (srcPick_any i n b a len cap t zs w0 w l h hi hx ht hl hn)
  clear h hi hx
  go_enter Tryd.func46, Tryd.ntmps46
  go_wp2_with fail
  refine H.out.mono ?_
  rintro e w1 ⟨x, t', rfl, hx0, hx1, ht0, ht1, h1⟩
  have H1 := Lib.hid h1
  clear h1 hx1
  go_wp2_with fail
  go_ret
  exact ⟨_, t', rfl, ht0, ht1, H1.out⟩
theorem OwnAt.sub {w0 w : World} {l l' : List (Nat × (Obj → Prop))} (h : OwnAt w0 w l) (hs : l'.Sublist l) : OwnAt w0 w l' := ⟨h.1.sub hs, h.2⟩
def triO (t : TypeId) (m a c : Int) (o : Obj) : Prop := o = .cells #[.int .i64 m, .int .i64 a, .int .i64 c] t (0, 0)
theorem OwnAt.tri {w0 w : World} {l : List (Nat × (Obj → Prop))} (h : OwnAt w0 w l) (i : Nat) {b t : Nat} {m a c : Int} (hi : l[i]? = some (b, triO t m a c)) : R3 w b m a c := by
  obtain ⟨hB, o, ho, hφ⟩ := h.1.holds _ (List.mem_of_getElem? hi)
  have e : o = .cells #[.int .i64 m, .int .i64 a, .int .i64 c] t (0, 0) := hφ
  subst e
  simp only at ho
  exact ⟨by simp [World.cell?, ho], by simp [World.cell?, ho], by simp [World.cell?, ho], by simp [World.frozen?, ho], by simp [World.frozen?, ho], by simp [World.frozen?, ho], lt_of_heap ho⟩
theorem OwnAt.triSet {w0 w : World} {l : List (Nat × (Obj → Prop))} (h : OwnAt w0 w l) (i : Nat) {b t j : Nat} {m a c m' a' c' v : Int} (hi : l[i]? = some (b, triO t m a c))
    (hs : (#[.int .i64 m, .int .i64 a, .int .i64 c] : Array Value).setIfInBounds j (.int .i64 v) = #[.int .i64 m', .int .i64 a', .int .i64 c']) : OwnAt w0 (w.setCell ⟨b, j, none⟩ (.int .i64 v)) (l.set i (b, triO t m' a' c')) := by
  obtain ⟨hB, o, ho, hφ⟩ := h.1.holds _ (List.mem_of_getElem? hi)
  have e : o = .cells #[.int .i64 m, .int .i64 a, .int .i64 c] t (0, 0) := hφ
  subst e
  simp only at ho hB
  have hg := grownBy_setCell w ⟨b, j, none⟩ (.int .i64 v)
  exact ⟨h.1.upd hi hg (Or.inl rfl) hB (heap_setCell_same w b j _ t _ ho) (by rw [hs]; rfl), h.2.grown hg h.2.size (fun k hk => by simp at hk; omega)⟩
theorem srcAmong_any (i i2 g cg : Nat) (xs : List Int) (b : Nat) (a : Option Addr) (len cap t : Nat) (zs : List Int) (w0 w : World) (l : List (Nat × (Obj → Prop))) (h : OwnAt w0 w l) (hi : l[i]? = some (b, srcO a len cap t)) (hne : i ≠ i2) (hi2 : l[i2]? = some (g, rowO 2 cg (xs.map (Value.int .i64)))) (hxs : 0 < xs.length) (hxl : xs.length ≤ 1000) (hx : IsU8s w0 a len zs) (ht : t < 900000000) (hl : len < 1000000000) :
    Calls Tryd.prog 45 #[.pointer (some ⟨b, 0, none⟩), .slice (some ⟨g, 0, none⟩) xs.length cg] w fun e w' => ∃ x t', e = .returned (.int .i64 x) ∧ x ∈ xs ∧ t ≤ t' ∧ t' ≤ t + 2 ∧ OwnAt w0 w' (l.set i (b, srcO a len cap t')) := by
  have H := Lib.hid (srcPick_any i (xs.length : Nat) b a len cap t zs w0 w l h hi hx ht hl (by omega))
  have HC := Lib.hid (show ∀ (w' : World) t' j, OwnAt w0 w' (l.set i (b, srcO a len cap t')) → j < xs.length → w'.cell? ⟨g, j, none⟩ = some (.int .i64 (xs.getD j 0)) from fun w' t' j h' hj => h'.1.intAt i2 (cap := cg) (e := 2) (by rw [List.getElem?_set_ne hne]; exact hi2) j hj)
  clear h hi hi2 hx
  go_enter Tryd.func45, Tryd.ntmps45
  go_wp2_with fail
  refine H.out.mono ?_
  rintro e w1 ⟨x, t', rfl, hx0, hx1, ht0, ht1, h1⟩
  obtain ⟨j, hj⟩ : ∃ j : Nat, x = (j : Int) := ⟨x.toNat, by omega⟩
  subst hj
  have hjl : j < xs.length := by omega
  have hji : (j : Int) < (xs.length : Int) := by omega
  have c1 := HC.out w1 t' j h1 hjl
  have HM := Lib.hid (List.getElem_mem hjl)
  have H1 := Lib.hid h1
  clear h1 HC H hx1
  go_wp2_with fail
  go_ret
  exact ⟨_, t', rfl, HM.out, ht0, ht1, H1.out⟩
/-- What a drawn congruence is. -/
def RetDk (w0 : World) (B b0 : Nat) (a : Option Addr) (len cap t : Nat) (e : Ending) (w' : World) : Prop := ∃ m f c t', e = .returned (.agg #[.int .i64 m, .int .i64 f, .int .i64 c]) ∧ cgOk m f c = true ∧ t' ≤ t + 30 ∧ OwnAt w0 w' [(B, srcO a len cap t'), (b0, triO 23 0 0 0)]
set_option maxRecDepth 20000 in
set_option maxHeartbeats 3200000 in
theorem drawOk_any (B b0 : Nat) (a : Option Addr) (len cap t : Nat) (zs : List Int) (w0 w : World) (h : OwnAt w0 w [(B, srcO a len cap t), (b0, triO 23 0 0 0)]) (hx : IsU8s w0 a len zs) (ht : t ≤ 100) (hl : len < 1000000000) :
    Calls Tryd.prog 24 #[.pointer (some ⟨B, 0, none⟩)] w (RetDk w0 B b0 a len cap t) := by
  have HO := Lib.hid (show OwnAt w0 (w.alloc (.cells #[.int .i64 0, .int .i64 0, .int .i64 0] 23 (0, 0))) [(w.heap.size, triO 23 0 0 0), (B, srcO a len cap t), (b0, triO 23 0 0 0)] from h.new rfl)
  have HX := Lib.hid hx
  clear h hx
  go_enter Tryd.func24, Tryd.ntmps24
  go_wp2_with fail
  obtain ⟨wA, hwA⟩ : ∃ w', w.alloc (.cells #[.int .i64 0, .int .i64 0, .int .i64 0] 23 (0, 0)) = w' := ⟨_, rfl⟩
  rw [hwA] at HO ⊢
  obtain ⟨b1, hb1⟩ : ∃ b, w.heap.size = b := ⟨_, rfl⟩
  rw [hb1] at HO ⊢
  clear hwA hb1
  refine (srcPick_any 1 60 B a len cap t zs w0 wA _ HO.out rfl HX.out (by omega) hl (by omega)).mono ?_
  rintro e w1 ⟨x, t1, rfl, x0, x1, u0, u1, h1⟩
  have HO1 := Lib.hid (show OwnAt w0 w1 [(b1, triO 23 0 0 0), (B, srcO a len cap t1), (b0, triO 23 0 0 0)] from h1)
  have hxb : x < 60 := by omega
  have hw1 : IntKind.i64.wrap (2 + x) = 2 + x := IntWalk.i64_in _ (by omega)
  clear h1 HO
  go_wp2_with fail
  refine (srcPick_any 1 8 B a len cap t1 zs w0 w1 _ HO1.out rfl HX.out (by omega) hl (by omega)).mono ?_
  rintro e w2 ⟨y, t2, rfl, y0, y1, v0, v1, h2⟩
  have HO2 := Lib.hid (show OwnAt w0 w2 [(b1, triO 23 0 0 0), (B, srcO a len cap t2), (b0, triO 23 0 0 0)] from h2)
  clear h2 HO1
  by_cases hy0 : y = 0
  · go_wp2_with fail
    refine (srcPick_any 1 4000 B a len cap t2 zs w0 w2 _ HO2.out rfl HX.out (by omega) hl (by omega)).mono ?_
    rintro e w3 ⟨z, t3, rfl, z0, z1, p0, p1, h3⟩
    have HO3 := Lib.hid (show OwnAt w0 w3 [(b1, triO 23 0 0 0), (B, srcO a len cap t3), (b0, triO 23 0 0 0)] from h3)
    have hw3 : IntKind.i64.wrap (2 + z) = 2 + z := IntWalk.i64_in _ (by omega)
    obtain ⟨m, hm⟩ : ∃ m, 2 + z = m := ⟨_, rfl⟩
    rw [hm] at hw3
    have hw4 : IntKind.i64.wrap (2 + z) = m := by rw [hm]; exact hw3
    have hm2 : 2 ≤ m := by omega
    have hm5 : m ≤ 5000 := by omega
    have ht3 : t3 ≤ t + 6 := by omega
    clear h3 HO2 hw3 hm
    go_wp2_with fail
    refine (srcPick_any 1 m B a len cap t3 zs w0 w3 _ HO3.out rfl HX.out (by omega) hl (by omega)).mono ?_
    rintro e w4 ⟨f, t4, rfl, f0, f1, p2, p3, h4⟩
    have HO5 := Lib.hid (show OwnAt w0 (w4.alloc (.cells #[.int .i64 m, .int .i64 f, .int .i64 0] 23 (0, 0))) [(w4.heap.size, triO 23 m f 0), (b1, triO 23 0 0 0), (B, srcO a len cap t4), (b0, triO 23 0 0 0)] from (show OwnAt w0 w4 [(b1, triO 23 0 0 0), (B, srcO a len cap t4), (b0, triO 23 0 0 0)] from h4).new rfl)
    have hfm : f < m := by omega
    clear h4 HO3 f1
    go_wp2_with fail
    obtain ⟨w5, hw5⟩ : ∃ w', w4.alloc (.cells #[.int .i64 m, .int .i64 f, .int .i64 0] 23 (0, 0)) = w' := ⟨_, rfl⟩
    obtain ⟨b2, hb2⟩ : ∃ b, w4.heap.size = b := ⟨_, rfl⟩
    rw [hw5, hb2] at HO5
    rw [hw5, hb2]
    clear hw5 hb2
    refine (srcPick_any 2 m B a len cap t4 zs w0 w5 _ HO5.out rfl HX.out (by omega) hl (by omega)).mono ?_
    rintro e w6 ⟨c, t6, rfl, c0, c1, p4, p5, h6⟩
    have HO6 := Lib.hid (show OwnAt w0 w6 [(b2, triO 23 m f 0), (b1, triO 23 0 0 0), (B, srcO a len cap t6), (b0, triO 23 0 0 0)] from h6)
    have hcm : c < m := by omega
    have HO7 := Lib.hid (show OwnAt w0 (w6.setCell ⟨b2, 2, none⟩ (.int .i64 c)) [(b2, triO 23 m f c), (b1, triO 23 0 0 0), (B, srcO a len cap t6), (b0, triO 23 0 0 0)] from HO6.out.triSet 0 rfl rfl)
    obtain ⟨q0, q1, q2, g0, g1, g2, hlt⟩ := HO6.out.tri 0 rfl
    clear h6 HO5 c1
    go_wp2_with fail
    obtain ⟨w7, hw7⟩ : ∃ w', w6.setCell ⟨b2, 2, none⟩ (.int .i64 c) = w' := ⟨_, rfl⟩
    rw [hw7] at HO7 ⊢
    clear hw7 q0 q1 q2 g0 g1 g2 hlt HO6
    refine (srcOne_any 2 4 B a len cap t6 zs w0 w7 _ HO7.out rfl HX.out (by omega) hl (by omega)).mono ?_
    rintro e w8 ⟨bb, t8, rfl, p6, p7, h8⟩
    have HO8 := Lib.hid (show OwnAt w0 w8 [(b2, triO 23 m f c), (b1, triO 23 0 0 0), (B, srcO a len cap t8), (b0, triO 23 0 0 0)] from h8)
    clear h8 HO7
    have HE := Lib.hid (show ∀ (w9 : World) f', OwnAt w0 w9 [(b2, triO 23 m f' c), (b1, triO 23 0 0 0), (B, srcO a len cap t8), (b0, triO 23 0 0 0)] → OwnAt w0 (((w9.setCell ⟨b1, 0, none⟩ (.int .i64 m)).setCell ⟨b1, 1, none⟩ (.int .i64 f')).setCell ⟨b1, 2, none⟩ (.int .i64 c)) [(B, srcO a len cap t8), (b0, triO 23 0 0 0)] from fun w9 f' h9 => by
      have k1 := h9.triSet 1 (j := 0) (v := m) (m' := m) (a' := 0) (c' := 0) rfl rfl
      have k2 := k1.triSet 1 (j := 1) (v := f') (m' := m) (a' := f') (c' := 0) rfl rfl
      have k3 := k2.triSet 1 (j := 2) (v := c) (m' := m) (a' := f') (c' := c) rfl rfl
      exact k3.sub ((List.sublist_cons_self _ _).trans (List.sublist_cons_self _ _)))
    have HTT := Lib.hid (show t8 ≤ t + 30 by omega)
    have hend : bb = false ∨ (bb = true ∧ ¬ 4 < m) ∨ (bb = true ∧ 4 < m) := by cases bb <;> simp <;> omega
    rcases hend with rfl | ⟨rfl, h4⟩ | ⟨rfl, h4⟩
    · have HOK := Lib.hid (show cgOk m f c = true by simp only [cgOk, inR, Bool.and_eq_true, decide_eq_true_eq]; omega)
      obtain ⟨q0, q1, q2, g0, g1, g2, hlt⟩ := HO8.out.tri 0 rfl
      obtain ⟨r0, r1, r2, k0, k1, k2, hlr⟩ := HO8.out.tri 1 rfl
      go_wp2_with fail
      refine bodyPost_ret (v := .agg #[.int .i64 m, .int .i64 f, .int .i64 c]) (by simp [results, Tryd.results24, go_sem, *]) rfl ?_
      exact ⟨m, f, c, t8, rfl, HOK.out, HTT.out, HE.out _ _ HO8.out⟩
    · have HOK := Lib.hid (show cgOk m f c = true by simp only [cgOk, inR, Bool.and_eq_true, decide_eq_true_eq]; omega)
      obtain ⟨q0, q1, q2, g0, g1, g2, hlt⟩ := HO8.out.tri 0 rfl
      obtain ⟨r0, r1, r2, k0, k1, k2, hlr⟩ := HO8.out.tri 1 rfl
      go_wp2_with fail
      refine bodyPost_ret (v := .agg #[.int .i64 m, .int .i64 f, .int .i64 c]) (by simp [results, Tryd.results24, go_sem, *]) rfl ?_
      exact ⟨m, f, c, t8, rfl, HOK.out, HTT.out, HE.out _ _ HO8.out⟩
    · obtain ⟨q, hq⟩ : ∃ q, m / 2 = q := ⟨_, rfl⟩
      have hq2 : m.tdiv 2 = q := by rw [Int.tdiv_eq_ediv_of_nonneg (by omega)]; exact hq
      have HOK := Lib.hid (show cgOk m (1 + q) c = true by simp only [cgOk, inR, Bool.and_eq_true, decide_eq_true_eq]; omega)
      have hwq : IntKind.i64.wrap q = q := IntWalk.i64_in _ (by omega)
      have hwr : IntKind.i64.wrap (1 + q) = 1 + q := IntWalk.i64_in _ (by omega)
      obtain ⟨q0, q1, q2, g0, g1, g2, hlt⟩ := HO8.out.tri 0 rfl
      have HO9 := Lib.hid (show OwnAt w0 (w8.setCell ⟨b2, 1, none⟩ (.int .i64 (1 + q))) [(b2, triO 23 m (1 + q) c), (b1, triO 23 0 0 0), (B, srcO a len cap t8), (b0, triO 23 0 0 0)] from HO8.out.triSet 0 rfl rfl)
      go_upto_region 11 with fail
      obtain ⟨w9, hw9⟩ : ∃ w', w8.setCell ⟨b2, 1, none⟩ (.int .i64 (1 + q)) = w' := ⟨_, rfl⟩
      rw [hw9] at HO9 ⊢
      clear hw9 q0 q1 q2 g0 g1 g2 hlt HO8
      obtain ⟨q0, q1, q2, g0, g1, g2, hlt⟩ := HO9.out.tri 0 rfl
      obtain ⟨r0, r1, r2, k0, k1, k2, hlr⟩ := HO9.out.tri 1 rfl
      go_wp2_with fail
      refine bodyPost_ret (v := .agg #[.int .i64 m, .int .i64 (1 + q), .int .i64 c]) (by simp [results, Tryd.results24, go_sem, *]) rfl ?_
      exact ⟨m, 1 + q, c, t8, rfl, HOK.out, HTT.out, HE.out _ _ HO9.out⟩
  · by_cases hy1 : y = 1
    · have HR := Lib.hid (show OwnAt w0 (w2.alloc (.cells #[.int .i64 16, .int .i64 64, .int .i64 256, .int .i64 100, .int .i64 81, .int .i64 31, .int .i64 127] 2 (0, 0))) [(w2.heap.size, rowO 2 7 (([16, 64, 256, 100, 81, 31, 127] : List Int).map (Value.int .i64))), (b1, triO 23 0 0 0), (B, srcO a len cap t2), (b0, triO 23 0 0 0)] from HO2.out.new ⟨_, rfl, rfl, by decide, by simp [maxLen], rfl⟩)
      clear HO2
      go_wp2_with fail
      refine (srcAmong_any 2 0 w2.heap.size 7 [16, 64, 256, 100, 81, 31, 127] B a len cap t2 zs w0 _ _ HR.out rfl (by decide) rfl (by decide) (by decide) HX.out (by omega) hl).mono ?_
      rintro e w3 ⟨m, t3, rfl, z0, p0, p1, h3⟩
      have HO3 := Lib.hid (show OwnAt w0 w3 [(b1, triO 23 0 0 0), (B, srcO a len cap t3), (b0, triO 23 0 0 0)] from h3.sub (List.sublist_cons_self _ _))
      have hmb : 2 ≤ m ∧ m ≤ 5000 := by
        simp only [List.mem_cons, List.not_mem_nil, or_false] at z0
        omega
      have hm2 := hmb.1
      have hm5 := hmb.2
      have ht3 : t3 ≤ t + 6 := by omega
      clear h3 HR z0 hmb
      go_wp2_with fail
      refine (srcPick_any 1 m B a len cap t3 zs w0 w3 _ HO3.out rfl HX.out (by omega) hl (by omega)).mono ?_
      rintro e w4 ⟨f, t4, rfl, f0, f1, p2, p3, h4⟩
      have HO5 := Lib.hid (show OwnAt w0 (w4.alloc (.cells #[.int .i64 m, .int .i64 f, .int .i64 0] 23 (0, 0))) [(w4.heap.size, triO 23 m f 0), (b1, triO 23 0 0 0), (B, srcO a len cap t4), (b0, triO 23 0 0 0)] from (show OwnAt w0 w4 [(b1, triO 23 0 0 0), (B, srcO a len cap t4), (b0, triO 23 0 0 0)] from h4).new rfl)
      have hfm : f < m := by omega
      clear h4 HO3 f1
      go_wp2_with fail
      obtain ⟨w5, hw5⟩ : ∃ w', w4.alloc (.cells #[.int .i64 m, .int .i64 f, .int .i64 0] 23 (0, 0)) = w' := ⟨_, rfl⟩
      obtain ⟨b2, hb2⟩ : ∃ b, w4.heap.size = b := ⟨_, rfl⟩
      rw [hw5, hb2] at HO5
      rw [hw5, hb2]
      clear hw5 hb2
      refine (srcPick_any 2 m B a len cap t4 zs w0 w5 _ HO5.out rfl HX.out (by omega) hl (by omega)).mono ?_
      rintro e w6 ⟨c, t6, rfl, c0, c1, p4, p5, h6⟩
      have HO6 := Lib.hid (show OwnAt w0 w6 [(b2, triO 23 m f 0), (b1, triO 23 0 0 0), (B, srcO a len cap t6), (b0, triO 23 0 0 0)] from h6)
      have hcm : c < m := by omega
      have HO7 := Lib.hid (show OwnAt w0 (w6.setCell ⟨b2, 2, none⟩ (.int .i64 c)) [(b2, triO 23 m f c), (b1, triO 23 0 0 0), (B, srcO a len cap t6), (b0, triO 23 0 0 0)] from HO6.out.triSet 0 rfl rfl)
      obtain ⟨q0, q1, q2, g0, g1, g2, hlt⟩ := HO6.out.tri 0 rfl
      clear h6 HO5 c1
      go_wp2_with fail
      obtain ⟨w7, hw7⟩ : ∃ w', w6.setCell ⟨b2, 2, none⟩ (.int .i64 c) = w' := ⟨_, rfl⟩
      rw [hw7] at HO7 ⊢
      clear hw7 q0 q1 q2 g0 g1 g2 hlt HO6
      refine (srcOne_any 2 4 B a len cap t6 zs w0 w7 _ HO7.out rfl HX.out (by omega) hl (by omega)).mono ?_
      rintro e w8 ⟨bb, t8, rfl, p6, p7, h8⟩
      have HO8 := Lib.hid (show OwnAt w0 w8 [(b2, triO 23 m f c), (b1, triO 23 0 0 0), (B, srcO a len cap t8), (b0, triO 23 0 0 0)] from h8)
      clear h8 HO7
      have HE := Lib.hid (show ∀ (w9 : World) f', OwnAt w0 w9 [(b2, triO 23 m f' c), (b1, triO 23 0 0 0), (B, srcO a len cap t8), (b0, triO 23 0 0 0)] → OwnAt w0 (((w9.setCell ⟨b1, 0, none⟩ (.int .i64 m)).setCell ⟨b1, 1, none⟩ (.int .i64 f')).setCell ⟨b1, 2, none⟩ (.int .i64 c)) [(B, srcO a len cap t8), (b0, triO 23 0 0 0)] from fun w9 f' h9 => by
        have k1 := h9.triSet 1 (j := 0) (v := m) (m' := m) (a' := 0) (c' := 0) rfl rfl
        have k2 := k1.triSet 1 (j := 1) (v := f') (m' := m) (a' := f') (c' := 0) rfl rfl
        have k3 := k2.triSet 1 (j := 2) (v := c) (m' := m) (a' := f') (c' := c) rfl rfl
        exact k3.sub ((List.sublist_cons_self _ _).trans (List.sublist_cons_self _ _)))
      have HTT := Lib.hid (show t8 ≤ t + 30 by omega)
      have hend : bb = false ∨ (bb = true ∧ ¬ 4 < m) ∨ (bb = true ∧ 4 < m) := by cases bb <;> simp <;> omega
      rcases hend with rfl | ⟨rfl, h4⟩ | ⟨rfl, h4⟩
      · have HOK := Lib.hid (show cgOk m f c = true by simp only [cgOk, inR, Bool.and_eq_true, decide_eq_true_eq]; omega)
        obtain ⟨q0, q1, q2, g0, g1, g2, hlt⟩ := HO8.out.tri 0 rfl
        obtain ⟨r0, r1, r2, k0, k1, k2, hlr⟩ := HO8.out.tri 1 rfl
        go_wp2_with fail
        refine bodyPost_ret (v := .agg #[.int .i64 m, .int .i64 f, .int .i64 c]) (by simp [results, Tryd.results24, go_sem, *]) rfl ?_
        exact ⟨m, f, c, t8, rfl, HOK.out, HTT.out, HE.out _ _ HO8.out⟩
      · have HOK := Lib.hid (show cgOk m f c = true by simp only [cgOk, inR, Bool.and_eq_true, decide_eq_true_eq]; omega)
        obtain ⟨q0, q1, q2, g0, g1, g2, hlt⟩ := HO8.out.tri 0 rfl
        obtain ⟨r0, r1, r2, k0, k1, k2, hlr⟩ := HO8.out.tri 1 rfl
        go_wp2_with fail
        refine bodyPost_ret (v := .agg #[.int .i64 m, .int .i64 f, .int .i64 c]) (by simp [results, Tryd.results24, go_sem, *]) rfl ?_
        exact ⟨m, f, c, t8, rfl, HOK.out, HTT.out, HE.out _ _ HO8.out⟩
      · obtain ⟨q, hq⟩ : ∃ q, m / 2 = q := ⟨_, rfl⟩
        have hq2 : m.tdiv 2 = q := by rw [Int.tdiv_eq_ediv_of_nonneg (by omega)]; exact hq
        have HOK := Lib.hid (show cgOk m (1 + q) c = true by simp only [cgOk, inR, Bool.and_eq_true, decide_eq_true_eq]; omega)
        have hwq : IntKind.i64.wrap q = q := IntWalk.i64_in _ (by omega)
        have hwr : IntKind.i64.wrap (1 + q) = 1 + q := IntWalk.i64_in _ (by omega)
        obtain ⟨q0, q1, q2, g0, g1, g2, hlt⟩ := HO8.out.tri 0 rfl
        have HO9 := Lib.hid (show OwnAt w0 (w8.setCell ⟨b2, 1, none⟩ (.int .i64 (1 + q))) [(b2, triO 23 m (1 + q) c), (b1, triO 23 0 0 0), (B, srcO a len cap t8), (b0, triO 23 0 0 0)] from HO8.out.triSet 0 rfl rfl)
        go_upto_region 11 with fail
        obtain ⟨w9, hw9⟩ : ∃ w', w8.setCell ⟨b2, 1, none⟩ (.int .i64 (1 + q)) = w' := ⟨_, rfl⟩
        rw [hw9] at HO9 ⊢
        clear hw9 q0 q1 q2 g0 g1 g2 hlt HO8
        obtain ⟨q0, q1, q2, g0, g1, g2, hlt⟩ := HO9.out.tri 0 rfl
        obtain ⟨r0, r1, r2, k0, k1, k2, hlr⟩ := HO9.out.tri 1 rfl
        go_wp2_with fail
        refine bodyPost_ret (v := .agg #[.int .i64 m, .int .i64 (1 + q), .int .i64 c]) (by simp [results, Tryd.results24, go_sem, *]) rfl ?_
        exact ⟨m, 1 + q, c, t8, rfl, HOK.out, HTT.out, HE.out _ _ HO9.out⟩
    · obtain ⟨w3, hw3⟩ : ∃ w3 : World, w3 = w2 := ⟨_, rfl⟩
      subst hw3
      obtain ⟨m, hm⟩ : ∃ m, 2 + x = m := ⟨_, rfl⟩
      rw [hm] at hw1 ⊢
      obtain ⟨t3, ht3'⟩ : ∃ t3, t3 = t2 := ⟨_, rfl⟩
      subst ht3'
      have HO3 := HO2
      have hm2 : 2 ≤ m := by omega
      have hm5 : m ≤ 5000 := by omega
      have ht3 : t3 ≤ t + 6 := by omega
      clear HO2 hm
      go_wp2_with fail
      refine (srcPick_any 1 m B a len cap t3 zs w0 w3 _ HO3.out rfl HX.out (by omega) hl (by omega)).mono ?_
      rintro e w4 ⟨f, t4, rfl, f0, f1, p2, p3, h4⟩
      have HO5 := Lib.hid (show OwnAt w0 (w4.alloc (.cells #[.int .i64 m, .int .i64 f, .int .i64 0] 23 (0, 0))) [(w4.heap.size, triO 23 m f 0), (b1, triO 23 0 0 0), (B, srcO a len cap t4), (b0, triO 23 0 0 0)] from (show OwnAt w0 w4 [(b1, triO 23 0 0 0), (B, srcO a len cap t4), (b0, triO 23 0 0 0)] from h4).new rfl)
      have hfm : f < m := by omega
      clear h4 HO3 f1
      go_wp2_with fail
      obtain ⟨w5, hw5⟩ : ∃ w', w4.alloc (.cells #[.int .i64 m, .int .i64 f, .int .i64 0] 23 (0, 0)) = w' := ⟨_, rfl⟩
      obtain ⟨b2, hb2⟩ : ∃ b, w4.heap.size = b := ⟨_, rfl⟩
      rw [hw5, hb2] at HO5
      rw [hw5, hb2]
      clear hw5 hb2
      refine (srcPick_any 2 m B a len cap t4 zs w0 w5 _ HO5.out rfl HX.out (by omega) hl (by omega)).mono ?_
      rintro e w6 ⟨c, t6, rfl, c0, c1, p4, p5, h6⟩
      have HO6 := Lib.hid (show OwnAt w0 w6 [(b2, triO 23 m f 0), (b1, triO 23 0 0 0), (B, srcO a len cap t6), (b0, triO 23 0 0 0)] from h6)
      have hcm : c < m := by omega
      have HO7 := Lib.hid (show OwnAt w0 (w6.setCell ⟨b2, 2, none⟩ (.int .i64 c)) [(b2, triO 23 m f c), (b1, triO 23 0 0 0), (B, srcO a len cap t6), (b0, triO 23 0 0 0)] from HO6.out.triSet 0 rfl rfl)
      obtain ⟨q0, q1, q2, g0, g1, g2, hlt⟩ := HO6.out.tri 0 rfl
      clear h6 HO5 c1
      go_wp2_with fail
      obtain ⟨w7, hw7⟩ : ∃ w', w6.setCell ⟨b2, 2, none⟩ (.int .i64 c) = w' := ⟨_, rfl⟩
      rw [hw7] at HO7 ⊢
      clear hw7 q0 q1 q2 g0 g1 g2 hlt HO6
      refine (srcOne_any 2 4 B a len cap t6 zs w0 w7 _ HO7.out rfl HX.out (by omega) hl (by omega)).mono ?_
      rintro e w8 ⟨bb, t8, rfl, p6, p7, h8⟩
      have HO8 := Lib.hid (show OwnAt w0 w8 [(b2, triO 23 m f c), (b1, triO 23 0 0 0), (B, srcO a len cap t8), (b0, triO 23 0 0 0)] from h8)
      clear h8 HO7
      have HE := Lib.hid (show ∀ (w9 : World) f', OwnAt w0 w9 [(b2, triO 23 m f' c), (b1, triO 23 0 0 0), (B, srcO a len cap t8), (b0, triO 23 0 0 0)] → OwnAt w0 (((w9.setCell ⟨b1, 0, none⟩ (.int .i64 m)).setCell ⟨b1, 1, none⟩ (.int .i64 f')).setCell ⟨b1, 2, none⟩ (.int .i64 c)) [(B, srcO a len cap t8), (b0, triO 23 0 0 0)] from fun w9 f' h9 => by
        have k1 := h9.triSet 1 (j := 0) (v := m) (m' := m) (a' := 0) (c' := 0) rfl rfl
        have k2 := k1.triSet 1 (j := 1) (v := f') (m' := m) (a' := f') (c' := 0) rfl rfl
        have k3 := k2.triSet 1 (j := 2) (v := c) (m' := m) (a' := f') (c' := c) rfl rfl
        exact k3.sub ((List.sublist_cons_self _ _).trans (List.sublist_cons_self _ _)))
      have HTT := Lib.hid (show t8 ≤ t + 30 by omega)
      have hend : bb = false ∨ (bb = true ∧ ¬ 4 < m) ∨ (bb = true ∧ 4 < m) := by cases bb <;> simp <;> omega
      rcases hend with rfl | ⟨rfl, h4⟩ | ⟨rfl, h4⟩
      · have HOK := Lib.hid (show cgOk m f c = true by simp only [cgOk, inR, Bool.and_eq_true, decide_eq_true_eq]; omega)
        obtain ⟨q0, q1, q2, g0, g1, g2, hlt⟩ := HO8.out.tri 0 rfl
        obtain ⟨r0, r1, r2, k0, k1, k2, hlr⟩ := HO8.out.tri 1 rfl
        go_wp2_with fail
        refine bodyPost_ret (v := .agg #[.int .i64 m, .int .i64 f, .int .i64 c]) (by simp [results, Tryd.results24, go_sem, *]) rfl ?_
        exact ⟨m, f, c, t8, rfl, HOK.out, HTT.out, HE.out _ _ HO8.out⟩
      · have HOK := Lib.hid (show cgOk m f c = true by simp only [cgOk, inR, Bool.and_eq_true, decide_eq_true_eq]; omega)
        obtain ⟨q0, q1, q2, g0, g1, g2, hlt⟩ := HO8.out.tri 0 rfl
        obtain ⟨r0, r1, r2, k0, k1, k2, hlr⟩ := HO8.out.tri 1 rfl
        go_wp2_with fail
        refine bodyPost_ret (v := .agg #[.int .i64 m, .int .i64 f, .int .i64 c]) (by simp [results, Tryd.results24, go_sem, *]) rfl ?_
        exact ⟨m, f, c, t8, rfl, HOK.out, HTT.out, HE.out _ _ HO8.out⟩
      · obtain ⟨q, hq⟩ : ∃ q, m / 2 = q := ⟨_, rfl⟩
        have hq2 : m.tdiv 2 = q := by rw [Int.tdiv_eq_ediv_of_nonneg (by omega)]; exact hq
        have HOK := Lib.hid (show cgOk m (1 + q) c = true by simp only [cgOk, inR, Bool.and_eq_true, decide_eq_true_eq]; omega)
        have hwq : IntKind.i64.wrap q = q := IntWalk.i64_in _ (by omega)
        have hwr : IntKind.i64.wrap (1 + q) = 1 + q := IntWalk.i64_in _ (by omega)
        obtain ⟨q0, q1, q2, g0, g1, g2, hlt⟩ := HO8.out.tri 0 rfl
        have HO9 := Lib.hid (show OwnAt w0 (w8.setCell ⟨b2, 1, none⟩ (.int .i64 (1 + q))) [(b2, triO 23 m (1 + q) c), (b1, triO 23 0 0 0), (B, srcO a len cap t8), (b0, triO 23 0 0 0)] from HO8.out.triSet 0 rfl rfl)
        go_upto_region 11 with fail
        obtain ⟨w9, hw9⟩ : ∃ w', w8.setCell ⟨b2, 1, none⟩ (.int .i64 (1 + q)) = w' := ⟨_, rfl⟩
        rw [hw9] at HO9 ⊢
        clear hw9 q0 q1 q2 g0 g1 g2 hlt HO8
        obtain ⟨q0, q1, q2, g0, g1, g2, hlt⟩ := HO9.out.tri 0 rfl
        obtain ⟨r0, r1, r2, k0, k1, k2, hlr⟩ := HO9.out.tri 1 rfl
        go_wp2_with fail
        refine bodyPost_ret (v := .agg #[.int .i64 m, .int .i64 (1 + q), .int .i64 c]) (by simp [results, Tryd.results24, go_sem, *]) rfl ?_
        exact ⟨m, 1 + q, c, t8, rfl, HOK.out, HTT.out, HE.out _ _ HO9.out⟩
theorem b10Long_any (a a' : Option Addr) (len cap len' cap' : Nat) (w : World) :
    Calls Tryd.prog 8 #[.slice a len cap, .slice a' len' cap'] w fun e w' => e = .returned (.bool (decide (1048576 < len) || decide (1048576 < len'))) ∧ w = w' := by
  by_cases h1 : 1048576 < len
  · have k1 : (1048576:Int) < (len:Int) := by omega
    go_enter Tryd.func8, Tryd.ntmps8
    go_wp2
    go_ret
    exact ⟨by rw [decide_eq_true h1]; rfl, rfl⟩
  · have k1 : ¬ (1048576:Int) < (len:Int) := by omega
    by_cases h2 : 1048576 < len'
    · have k2 : (1048576:Int) < (len':Int) := by omega
      go_enter Tryd.func8, Tryd.ntmps8
      go_wp2
      go_ret
      exact ⟨rfl, rfl⟩
    · have k2 : ¬ (1048576:Int) < (len':Int) := by omega
      go_enter Tryd.func8, Tryd.ntmps8
      go_wp2
      go_ret
      exact ⟨rfl, rfl⟩
theorem b10Has_any (a : Option Addr) (len cap : Nat) (xs : List Int) (z : Int) (w : World) (hx : IsInts w a len xs) (hl : len < 1000000) :
    Calls Tryd.prog 17 #[.slice a len cap, .int .i64 z] w fun e w' => e = .returned (.bool (decide (z ∈ xs))) ∧ w' = w := by
  have hlen := hx.1
  go_enter Tryd.func17, Tryd.ntmps17
  go_wp2
  go_loopw [5] (fun i wr => ∃ m : Nat, m ≤ len ∧ i = .int .i64 (m : Nat) ∧ Hid (∀ j, j < m → xs.getD j 0 ≠ z) ∧ wr = w) (fun i _ => len - (intOf i).toNat)
  case atStart => exact ⟨0, Nat.zero_le _, rfl, Lib.hid (fun j h => by omega), rfl⟩
  case round =>
    obtain ⟨m, hm, rfl, HF, rfl⟩ := hrel
    by_cases hlt : m < len
    · obtain ⟨b2, off2, rfl, hcm⟩ := hx.at hlt
      have hm0 : (0:Int) ≤ (m:Int) := by omega
      have hmi : (m:Int) < (len:Int) := by omega
      obtain ⟨x, hxx⟩ : ∃ x, xs.getD m 0 = x := ⟨_, rfl⟩
      rw [hxx] at hcm
      by_cases hxz : x = z
      · subst hxz
        have HM := Lib.hid (show x ∈ xs by rw [← hxx, getD_eq _ _ (by omega)]; exact List.getElem_mem _)
        clear hxx
        go_wp2
        go_ret
        exact ⟨by rw [decide_eq_true HM.out]; rfl, rfl⟩
      · have HN := Lib.hid (show ∀ j, j < m + 1 → xs.getD j 0 ≠ z from fun j hj => by
          by_cases e : j = m
          · rw [e, hxx]; exact hxz
          · exact HF.out j (by omega))
        clear hxx
        go_wp2
        go_roundw
        case rel => exact ⟨m + 1, by omega, by go_num, HN, trivial⟩
        case measure => simp [intOf]; omega
    · have HM := Lib.hid (show ¬ z ∈ xs from fun h => by
        obtain ⟨j, hj, rfl⟩ := List.getElem_of_mem h
        exact HF.out j (by omega) (getD_eq _ _ hj))
      go_wp2
      go_ret
      exact ⟨by rw [decide_eq_false HM.out]; rfl, rfl⟩
/-- The first byte's part of four. -/
def atY (len : Nat) (zs : List Int) : Int := if 0 < len then zs.getD 0 0 % 4 else 3
theorem atY_bd (len : Nat) (zs : List Int) : 0 ≤ atY len zs ∧ atY len zs ≤ 3 := by unfold atY; split <;> omega
theorem b10At04_any (a : Option Addr) (len cap : Nat) (zs : List Int) (w : World) (hx : IsU8s w a len zs) :
    Calls Tryd.prog 11 #[.slice a len cap, .int .i64 0, .int .i64 4] w fun e w' => e = .returned (.int .i64 (atY len zs)) ∧ w' = w := by
  by_cases h2 : 0 < len
  · obtain ⟨b, off, ha, hc⟩ := hx.at h2
    subst ha
    have hbd := hx.bd 0
    have HV := Lib.hid (show atY len zs = zs.getD 0 0 % 4 from if_pos h2)
    obtain ⟨x, hxe⟩ : ∃ x, zs.getD 0 0 = x := ⟨_, rfl⟩
    rw [hxe, Nat.add_zero] at hc
    rw [hxe] at hbd HV
    clear hx hxe
    have k1 : (0:Int) < (len:Int) := by omega
    go_enter Tryd.func11, Tryd.ntmps11
    go_wp2
    go_ret
    exact ⟨by rw [HV.out]; rfl, rfl⟩
  · have k1 : ¬ (0:Int) < (len:Int) := by omega
    have HV := Lib.hid (show atY len zs = 3 from if_neg h2)
    clear hx h2
    go_enter Tryd.func11, Tryd.ntmps11
    go_wp2
    go_ret
    exact ⟨by rw [HV.out]; rfl, rfl⟩
theorem b10Nums_same (a a' : Option Addr) (n cap cap' : Nat) (zs : List Int) (w : World) (hx : IsInts w a n zs) (hy : IsInts w a' n zs) (hn : n ≤ 1000) :
    Calls Tryd.prog 19 #[.slice a n cap, .slice a' n cap'] w fun e w' => e = .returned (.bool true) ∧ Below w.heap.size w w' := by
  have HX := Lib.hid hx
  have HY := Lib.hid hy
  clear hx hy
  go_enter Tryd.func19, Tryd.ntmps19
  go_wp2
  go_loopw [5] (fun i wr => ∃ m : Nat, m ≤ n ∧ i = .int .i64 (m : Nat) ∧ Hid (∃ q, wr = w.drewN q)) (fun i _ => n - (intOf i).toNat)
  case atStart => exact ⟨0, Nat.zero_le _, rfl, Lib.hid ⟨0, rfl⟩⟩
  case round =>
    obtain ⟨m, hm, rfl, HW⟩ := hrel
    obtain ⟨q0, hq0⟩ := HW.out
    by_cases hlt : m < n
    · obtain ⟨b1, off1, rfl, c1⟩ := (show IsInts wr a n zs by rw [hq0]; exact HX.out.drewN q0).at hlt
      obtain ⟨b2, off2, rfl, c2⟩ := (show IsInts wr a' n zs by rw [hq0]; exact HY.out.drewN q0).at hlt
      have HWN := Lib.hid (show ∀ q, ∃ q', wr.drewN q = w.drewN q' from fun q => ⟨q0 + q, by rw [hq0]; exact drewN_two _ _ _⟩)
      have hm0 : (0:Int) ≤ (m:Int) := by omega
      have hmi : (m:Int) < (n:Int) := by omega
      obtain ⟨x, hxx⟩ : ∃ x, zs.getD m 0 = x := ⟨_, rfl⟩
      rw [hxx] at c1 c2
      clear hxx hq0
      go_wp2_with fail
      go_quiet (fail)
      go_wp2_with fail
      go_roundw
      case rel => exact ⟨m + 1, by omega, by go_num, Lib.hid (HWN.out _)⟩
      case measure => simp [intOf]; omega
    · obtain rfl : m = n := by omega
      have hmi : ¬ (m:Int) < (m:Int) := by omega
      have HB := Lib.hid (show Below w.heap.size w wr by rw [hq0]; exact drewN_below _ _)
      clear hq0
      go_wp2_with fail
      go_ret
      exact ⟨rfl, HB.out⟩
end Go.Proofs.YthjndfbjalkckaaDoor

import Derived.Test.YtklnfhjgbmfilaaRat2
/- Ratios: the product. Condition: the digits' lengths stay below 2 to the power of 27. -/
namespace Go.Proofs.Ytklnfhjgbmfilaa
open Go.RowKit
set_option linter.unusedVariables false

theorem digs_len_mul (x y : Nat) : (digs (x * y)).length ≤ (digs x).length + (digs y).length := by
  refine digs_len_le ?_
  rw [Nat.pow_add]
  exact Nat.mul_lt_mul'' (digs_lt x) (digs_lt y)
/-- A value that is a sign and two numbers. -/
structure RawV (w : World) (a1 a2 : Option Addr) (l1 l2 n d : Nat) : Prop where
  e1 : (digs n).length = l1
  e2 : (digs d).length = l2
  r1 : IsU32s w a1 l1 (digs n)
  r2 : IsU32s w a2 l2 (digs d)
theorem RawV.below {w w' : World} {a1 a2 : Option Addr} {l1 l2 n d : Nat} (h : RawV w a1 a2 l1 l2 n d) (hb : Below w.heap.size w w') : RawV w' a1 a2 l1 l2 n d := ⟨h.e1, h.e2, h.r1.below hb, h.r2.below hb⟩
theorem RawV.ints {w w' : World} {a1 a2 : Option Addr} {l1 l2 n d : Nat} (h : RawV w a1 a2 l1 l2 n d) (hI : Ints w w') : RawV w' a1 a2 l1 l2 n d := ⟨h.e1, h.e2, h.r1.ints hI, h.r2.ints hI⟩
/-- What three older blocks hold is as it was. -/
def Kept3 (w w' : World) (b : Nat) : Prop := ∀ o, w'.cell? ⟨b, o, none⟩ = w.cell? ⟨b, o, none⟩
theorem tri_cells {wr : World} {k t : Nat} {x y z : Value} (h : wr.heap[k]? = some (.cells #[x, y, z] t (0, 0))) : (wr.cell? ⟨k, 0, none⟩ = some x ∧ wr.cell? ⟨k, 1, none⟩ = some y ∧ wr.cell? ⟨k, 2, none⟩ = some z) ∧ wr.frozen? ⟨k, 0, none⟩ = false ∧ wr.frozen? ⟨k, 1, none⟩ = false ∧ wr.frozen? ⟨k, 2, none⟩ = false :=
  ⟨⟨by simp [World.cell?, h], by simp [World.cell?, h], by simp [World.cell?, h]⟩, by simp [World.frozen?, h], by simp [World.frozen?, h], by simp [World.frozen?, h]⟩
/-- Three boxes laid one after another. -/
theorem three_boxes (w : World) (o0 o1 o2 : Obj) : (((w.alloc o0).alloc o1).alloc o2).heap[w.heap.size]? = some o0 ∧ (((w.alloc o0).alloc o1).alloc o2).heap[w.heap.size + 1]? = some o1 ∧ (((w.alloc o0).alloc o1).alloc o2).heap[w.heap.size + 1 + 1]? = some o2 := by
  refine ⟨?_, ?_, ?_⟩
  · rw [heap_alloc_if, if_neg (by simp only [alloc_size]; omega), heap_alloc_if, if_neg (by simp only [alloc_size]; omega), heap_at_new]
  · rw [heap_alloc_if, if_neg (by simp only [alloc_size]; omega), heap_alloc_if, if_pos (by simp only [alloc_size])]
  · rw [heap_alloc_if, if_pos (by simp only [alloc_size])]
theorem natTimes_kept (x y m n b0 b1 b2 : Nat) (a1 a2 : Option Addr) (c1 c2 : Nat) (w : World) (hm : (digs x).length = m) (hn : (digs y).length = n) (hx : IsU32s w a1 m (digs x)) (hy : IsU32s w a2 n (digs y)) (hb1 : m < 134217728) (hb2 : n < 134217728) (h0 : b0 < w.heap.size) (h1 : b1 < w.heap.size) (h2 : b2 < w.heap.size) :
    Calls Try.prog 98 #[.slice a1 m c1, .slice a2 n c2] w fun e w' => ∃ a cap l, e = .returned (.slice a l cap) ∧ Hid (IsU32s w' a l (digs (x * y)) ∧ Below w.heap.size w w' ∧ (digs (x * y)).length = l ∧ l < 268435456) ∧
      (∀ o, w'.cell? ⟨b0, o, none⟩ = w.cell? ⟨b0, o, none⟩) ∧ (∀ o, w'.cell? ⟨b1, o, none⟩ = w.cell? ⟨b1, o, none⟩) ∧ (∀ o, w'.cell? ⟨b2, o, none⟩ = w.cell? ⟨b2, o, none⟩) ∧ (∀ o, w'.frozen? ⟨b2, o, none⟩ = w.frozen? ⟨b2, o, none⟩) ∧ b0 < w'.heap.size ∧ b1 < w'.heap.size ∧ b2 < w'.heap.size := by
  subst hm
  subst hn
  refine (natTimes_any a1 a2 c1 c2 x y w hx hy (by omega) (by omega)).mono ?_
  rintro e w' ⟨a, cap, rfl, _, e3, e4⟩
  have hl := digs_len_mul x y
  exact ⟨a, cap, _, rfl, Lib.hid ⟨e3, e4, rfl, by omega⟩, fun o => e4.cell (p := ⟨b0, o, none⟩) h0, fun o => e4.cell (p := ⟨b1, o, none⟩) h1, fun o => e4.cell (p := ⟨b2, o, none⟩) h2, fun o => e4.frozen (p := ⟨b2, o, none⟩) h2, Nat.lt_of_lt_of_le h0 e4.size, Nat.lt_of_lt_of_le h1 e4.size, Nat.lt_of_lt_of_le h2 e4.size⟩
theorem lowest_kept (neg : Bool) (a1 a2 : Option Addr) (c1 c2 l1 l2 n d b0 b1 b : Nat) (w : World) (h : RawV w a1 a2 l1 l2 n d) (hb1 : l1 < 536870912) (hb2 : l2 < 536870912) (hd : 0 < d) (q0 : b0 < w.heap.size) (q1 : b1 < w.heap.size) (h2 : b < w.heap.size) :
    Calls Try.prog 97 #[.agg #[.bool neg, .slice a1 l1 c1, .slice a2 l2 c2]] w fun e w' => ∃ sg a1 c1 l1 a2 c2 l2, e = .returned (.agg #[.bool sg, .slice a1 l1 c1, .slice a2 l2 c2]) ∧ Hid (RawV w' a1 a2 l1 l2 (mkRat (sgn neg n) d).num.natAbs (mkRat (sgn neg n) d).den ∧ Below w.heap.size w w' ∧ sg = decide ((mkRat (sgn neg n) d).num < 0)) ∧
      (∀ o, w'.cell? ⟨b0, o, none⟩ = w.cell? ⟨b0, o, none⟩) ∧ (∀ o, w'.cell? ⟨b1, o, none⟩ = w.cell? ⟨b1, o, none⟩) ∧ (∀ o, w'.cell? ⟨b, o, none⟩ = w.cell? ⟨b, o, none⟩) ∧ (∀ o, w'.frozen? ⟨b, o, none⟩ = w.frozen? ⟨b, o, none⟩) ∧ b0 < w'.heap.size ∧ b1 < w'.heap.size ∧ b < w'.heap.size := by
  obtain ⟨rfl, rfl, r1, r2⟩ := h
  refine (lowest_any neg a1 a2 c1 c2 n d w r1 r2 hb1 hb2 hd).mono ?_
  rintro e w' ⟨x1, k1, x2, k2, rfl, h3, h4, h5⟩
  exact ⟨_, x1, k1, _, x2, k2, _, rfl, Lib.hid ⟨⟨rfl, rfl, h3, h4⟩, h5, rfl⟩, fun o => h5.cell (p := ⟨b0, o, none⟩) q0, fun o => h5.cell (p := ⟨b1, o, none⟩) q1, fun o => h5.cell (p := ⟨b, o, none⟩) h2, fun o => h5.frozen (p := ⟨b, o, none⟩) h2, Nat.lt_of_lt_of_le q0 h5.size, Nat.lt_of_lt_of_le q1 h5.size, Nat.lt_of_lt_of_le h2 h5.size⟩
/-- What a ratio's call answers, with the lengths named. -/
def RetR (w : World) (r : Rat) (e : Ending) (w' : World) : Prop := ∃ sg a1 c1 l1 a2 c2 l2, e = .returned (.agg #[.bool sg, .slice a1 l1 c1, .slice a2 l2 c2]) ∧ RawV w' a1 a2 l1 l2 r.num.natAbs r.den ∧ Below w.heap.size w w' ∧ sg = decide (r.num < 0)
set_option maxRecDepth 20000 in
set_option maxHeartbeats 3200000 in
theorem timesR_raw (s1 s2 : Bool) (a1 a2 b1 b2 : Option Addr) (c1 c2 k1 k2 l1 l2 m1 m2 n1 d1 n2 d2 : Nat) (w : World) (h1 : RawV w a1 a2 l1 l2 n1 d1) (h2 : RawV w b1 b2 m1 m2 n2 d2) (q1 : l1 < 134217728) (q2 : l2 < 134217728) (q3 : m1 < 134217728) (q4 : m2 < 134217728) (hd1 : 0 < d1) (hd2 : 0 < d2) :
    Calls Try.prog 48 #[.agg #[.bool s1, .slice a1 l1 c1, .slice a2 l2 c2], .agg #[.bool s2, .slice b1 m1 k1, .slice b2 m2 k2]] w (RetR w (mkRat (sgn (s1 != s2) (n1 * n2)) (d1 * d2))) := by
  have HA : Below w.heap.size w (((w.alloc (.cells #[.bool s1, .slice a1 l1 c1, .slice a2 l2 c2] 79)).alloc (.cells #[.bool s2, .slice b1 m1 k1, .slice b2 m2 k2] 79)).alloc (.cells #[.bool false, .slice none 0 0, .slice none 0 0] 79)).drew := ((((Below.refl _ w).alloc (Nat.le_refl _) _).alloc (by simp) _).alloc (by simp only [alloc_size]; omega) _).drew
  have H := Lib.hid (And.intro h1 (And.intro h2 (And.intro HA (And.intro hd1 hd2))))
  have hdd : 0 < d1 * d2 := Nat.mul_pos hd1 hd2
  have HDD := Lib.hid hdd
  clear h1 h2 HA hd1 hd2 hdd
  obtain ⟨R, hR⟩ : ∃ R, mkRat (sgn (s1 != s2) (n1 * n2)) (d1 * d2) = R := ⟨_, rfl⟩
  rw [hR]
  have HR := Lib.hid hR
  clear hR
  go_enter Try.func48, Try.ntmps48
  go_wp2_with fail
  obtain ⟨t0, t1, t2⟩ := three_boxes w (.cells #[.bool s1, .slice a1 l1 c1, .slice a2 l2 c2] 79) (.cells #[.bool s2, .slice b1 m1 k1, .slice b2 m2 k2] 79) (.cells #[.bool false, .slice none 0 0, .slice none 0 0] 79)
  obtain ⟨⟨z0, z1, z2⟩, _, _, _⟩ := tri_cells t0
  obtain ⟨⟨z3, z4, z5⟩, _, _, _⟩ := tri_cells t1
  obtain ⟨⟨z6, z7, z8⟩, z9, z10, z11⟩ := tri_cells t2
  obtain ⟨wS, hwS⟩ : ∃ w', (((w.alloc (.cells #[.bool s1, .slice a1 l1 c1, .slice a2 l2 c2] 79)).alloc (.cells #[.bool s2, .slice b1 m1 k1, .slice b2 m2 k2] 79)).alloc (.cells #[.bool false, .slice none 0 0, .slice none 0 0] 79)) = w' := ⟨_, rfl⟩
  have zs : wS.heap.size = w.heap.size + 1 + 1 + 1 := by rw [← hwS]; simp only [alloc_size]
  rw [hwS] at z0 z1 z2 z3 z4 z5 z6 z7 z8 z9 z10 z11 H ⊢
  clear hwS t0 t1 t2
  have hne1 : w.heap.size + 1 + 1 ≠ w.heap.size := by omega
  have hne2 : w.heap.size ≠ w.heap.size + 1 + 1 := by omega
  go_region_held3 (fun w' => w'.cell? ⟨w.heap.size, 0, none⟩ = some (.bool s1) ∧ w'.cell? ⟨w.heap.size, 1, none⟩ = some (.slice a1 l1 c1) ∧ w'.cell? ⟨w.heap.size, 2, none⟩ = some (.slice a2 l2 c2) ∧
      w'.cell? ⟨w.heap.size + 1, 0, none⟩ = some (.bool s2) ∧ w'.cell? ⟨w.heap.size + 1, 1, none⟩ = some (.slice b1 m1 k1) ∧ w'.cell? ⟨w.heap.size + 1, 2, none⟩ = some (.slice b2 m2 k2) ∧
      w'.cell? ⟨w.heap.size + 1 + 1, 0, none⟩ = some (oldVal w' ⟨w.heap.size + 1 + 1, 0, none⟩) ∧ w'.cell? ⟨w.heap.size + 1 + 1, 1, none⟩ = some (oldVal w' ⟨w.heap.size + 1 + 1, 1, none⟩) ∧ w'.cell? ⟨w.heap.size + 1 + 1, 2, none⟩ = some (oldVal w' ⟨w.heap.size + 1 + 1, 2, none⟩) ∧
      w'.frozen? ⟨w.heap.size + 1 + 1, 0, none⟩ = false ∧ w'.frozen? ⟨w.heap.size + 1 + 1, 1, none⟩ = false ∧ w'.frozen? ⟨w.heap.size + 1 + 1, 2, none⟩ = false ∧ w.heap.size < w'.heap.size ∧ w.heap.size + 1 < w'.heap.size ∧ w.heap.size + 1 + 1 < w'.heap.size)
    ((repeat' refine And.intro ?_ ?_) <;> first | (go_keep; done) | (refine oldVal_of ?_; (repeat refine some_set ?_); go_keep; done) | (go_keep; omega))
    (first
      | (go_at_call_of 98 (Value.slice a1 l1 c1); refine (natTimes_kept n1 n2 l1 m1 w.heap.size (w.heap.size + 1) (w.heap.size + 1 + 1) a1 b1 c1 k1 _ H.out.1.e1 H.out.2.1.e1 (H.out.1.r1.below H.out.2.2.1) (H.out.2.1.r1.below H.out.2.2.1) q1 q3 ?_ ?_ ?_).mono ?_; (first | omega | (simp [*]; done) | (simp [*]; omega)); (first | omega | (simp [*]; done) | (simp [*]; omega)); (first | omega | (simp [*]; done) | (simp [*]; omega)); rintro e w5 ⟨x1, g1, t1, rfl, hX1, p0, p1, p2, p3, p4, p5, p6⟩)
      | (go_at_call_of 98 (Value.slice a2 l2 c2); refine (natTimes_kept d1 d2 l2 m2 w.heap.size (w.heap.size + 1) (w.heap.size + 1 + 1) a2 b2 c2 k2 _ H.out.1.e2 H.out.2.1.e2 (H.out.1.r2.below (bthen H.out.2.2.1 hX1.out.2.1)) (H.out.2.1.r2.below (bthen H.out.2.2.1 hX1.out.2.1)) q2 q4 ?_ ?_ ?_).mono ?_; (first | omega | (simp [*]; done) | (simp [*]; omega)); (first | omega | (simp [*]; done) | (simp [*]; omega)); (first | omega | (simp [*]; done) | (simp [*]; omega)); rintro e w6 ⟨x2, g2, t2, rfl, hX2, r0, r1, r2, r3, r4, r5, r6⟩)
      | (go_at_call 97; refine (lowest_kept (!(s1 == s2)) x1 x2 g1 g2 t1 t2 (n1 * n2) (d1 * d2) w.heap.size (w.heap.size + 1) (w.heap.size + 1 + 1) _ ⟨hX1.out.2.2.1, hX2.out.2.2.1, hX1.out.1.below hX2.out.2.1, hX2.out.1⟩ (by have := hX1.out.2.2.2; omega) (by have := hX2.out.2.2.2; omega) HDD.out ?_ ?_ ?_).mono ?_; (first | omega | (simp [*]; done) | (simp [*]; omega)); (first | omega | (simp [*]; done) | (simp [*]; omega)); (first | omega | (simp [*]; done) | (simp [*]; omega)); rintro e w7 ⟨sg, y1, u1, v1, y2, u2, v2, rfl, hY, s0, s1', s2', s3, s4, s5, s6⟩))
  go_wp2_with fail
  rename_i hHeld
  clear hHeld
  have hR := HR.out
  obtain ⟨hv, hbl, hsg⟩ := hY.out
  rw [show mkRat (sgn (!(s1 == s2)) (n1 * n2)) (d1 * d2) = R from hR] at hv hsg
  have hb : Below w.heap.size w w7 := bthen (bthen (bthen H.out.2.2.1 hX1.out.2.1) hX2.out.2.1) hbl
  have g0 : w7.cell? ⟨w.heap.size + 1 + 1, 0, none⟩ = some (.bool false) := by rw [s2' 0, r2 0, p2 0]; exact z6
  have g1' : w7.cell? ⟨w.heap.size + 1 + 1, 1, none⟩ = some (.slice none 0 0) := by rw [s2' 1, r2 1, p2 1]; exact z7
  have g2' : w7.cell? ⟨w.heap.size + 1 + 1, 2, none⟩ = some (.slice none 0 0) := by rw [s2' 2, r2 2, p2 2]; exact z8
  have hI : Ints w7 (set3 w7 (w.heap.size + 1 + 1) (.bool sg) (.slice y1 v1 u1) (.slice y2 v2 u2)) := ints_set3 _ _ _ (by rw [g0]; simp) (by rw [g1']; simp) (by rw [g2']; simp)
  refine bodyPost_ret (v := .agg #[.bool sg, .slice y1 v1 u1, .slice y2 v2 u2]) (by simp [results, Try.results48, go_sem, *]) rfl ⟨sg, y1, u1, v1, y2, u2, v2, rfl, hv.ints hI, ?_, hsg⟩
  exact below_set3 hb (by omega) _ _ _
end Go.Proofs.Ytklnfhjgbmfilaa

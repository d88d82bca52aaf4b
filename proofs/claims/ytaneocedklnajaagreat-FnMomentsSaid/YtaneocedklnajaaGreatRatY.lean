import Derived.Test.YtaneocedklnajaaGreatRatX
import Derived.Deep.CutBlock
/- Ratios: the product. Condition: the digits' lengths stay below 2 to the power of 27. -/
namespace Go.Proofs.YtaneocedklnajaaGreat
open Go.RowKit
set_option linter.unusedVariables false

theorem digs_len_mul (x y : Nat) : (digs (x * y)).length ≤ (digs x).length + (digs y).length := by
  refine digs_len_le ?_
  rw [Nat.pow_add]
  exact Nat.mul_lt_mul'' (digs_lt x) (digs_lt y)
/-- A value that is a sign and two numbers. -/
structure RawV (w : World) (a1 a2 : Option Addr) (l1 l2 n d : Nat) : Prop where
  e1 : (digs n).length = l1
  e2 : (digs d).length = l2
  r1 : IsU32s w a1 l1 (digs n)
  r2 : IsU32s w a2 l2 (digs d)
theorem RawV.below {w w' : World} {a1 a2 : Option Addr} {l1 l2 n d : Nat} (h : RawV w a1 a2 l1 l2 n d) (hb : Below w.heap.size w w') : RawV w' a1 a2 l1 l2 n d := ⟨h.e1, h.e2, h.r1.below hb, h.r2.below hb⟩
theorem RawV.ints {w w' : World} {a1 a2 : Option Addr} {l1 l2 n d : Nat} (h : RawV w a1 a2 l1 l2 n d) (hI : Ints w w') : RawV w' a1 a2 l1 l2 n d := ⟨h.e1, h.e2, h.r1.ints hI, h.r2.ints hI⟩
/-- What three older blocks hold is as it was. -/
def Kept3 (w w' : World) (b : Nat) : Prop := ∀ o, w'.cell? ⟨b, o, none⟩ = w.cell? ⟨b, o, none⟩
theorem tri_cells {wr : World} {k t : Nat} {x y z : Value} (h : wr.heap[k]? = some (.cells #[x, y, z] t (0, 0))) : (wr.cell? ⟨k, 0, none⟩ = some x ∧ wr.cell? ⟨k, 1, none⟩ = some y ∧ wr.cell? ⟨k, 2, none⟩ = some z) ∧ wr.frozen? ⟨k, 0, none⟩ = false ∧ wr.frozen? ⟨k, 1, none⟩ = false ∧ wr.frozen? ⟨k, 2, none⟩ = false :=
  ⟨⟨by simp [World.cell?, h], by simp [World.cell?, h], by simp [World.cell?, h]⟩, by simp [World.frozen?, h], by simp [World.frozen?, h], by simp [World.frozen?, h]⟩
/-- Three boxes laid one after another. -/
theorem three_boxes (w : World) (o0 o1 o2 : Obj) : (((w.alloc o0).alloc o1).alloc o2).heap[w.heap.size]? = some o0 ∧ (((w.alloc o0).alloc o1).alloc o2).heap[w.heap.size + 1]? = some o1 ∧ (((w.alloc o0).alloc o1).alloc o2).heap[w.heap.size + 1 + 1]? = some o2 := by
  refine ⟨?_, ?_, ?_⟩
  · rw [heap_alloc_if, if_neg (by simp only [alloc_size]; omega), heap_alloc_if, if_neg (by simp only [alloc_size]; omega), heap_at_new]
  · rw [heap_alloc_if, if_neg (by simp only [alloc_size]; omega), heap_alloc_if, if_pos (by simp only [alloc_size])]
  · rw [heap_alloc_if, if_pos (by simp only [alloc_size])]
theorem natTimes_kept (x y m n b0 b1 b2 : Nat) (a1 a2 : Option Addr) (c1 c2 : Nat) (w : World) (hm : (digs x).length = m) (hn : (digs y).length = n) (hx : IsU32s w a1 m (digs x)) (hy : IsU32s w a2 n (digs y)) (hb1 : m < 134217728) (hb2 : n < 134217728) (h0 : b0 < w.heap.size) (h1 : b1 < w.heap.size) (h2 : b2 < w.heap.size) :
    Calls Tryz.prog 73 #[.slice a1 m c1, .slice a2 n c2] w fun e w' => ∃ a cap l, e = .returned (.slice a l cap) ∧ Hid (IsU32s w' a l (digs (x * y)) ∧ Below w.heap.size w w' ∧ (digs (x * y)).length = l ∧ l < 268435456) ∧
      (∀ o, w'.cell? ⟨b0, o, none⟩ = w.cell? ⟨b0, o, none⟩) ∧ (∀ o, w'.cell? ⟨b1, o, none⟩ = w.cell? ⟨b1, o, none⟩) ∧ (∀ o, w'.cell? ⟨b2, o, none⟩ = w.cell? ⟨b2, o, none⟩) ∧ (∀ o, w'.frozen? ⟨b2, o, none⟩ = w.frozen? ⟨b2, o, none⟩) ∧ b0 < w'.heap.size ∧ b1 < w'.heap.size ∧ b2 < w'.heap.size := by
  subst hm
  subst hn
  refine (natTimes_any a1 a2 c1 c2 x y w hx hy (by omega) (by omega)).mono ?_
  rintro e w' ⟨a, cap, rfl, _, e3, e4⟩
  have hl := digs_len_mul x y
  exact ⟨a, cap, _, rfl, Lib.hid ⟨e3, e4, rfl, by omega⟩, fun o => e4.cell (p := ⟨b0, o, none⟩) h0, fun o => e4.cell (p := ⟨b1, o, none⟩) h1, fun o => e4.cell (p := ⟨b2, o, none⟩) h2, fun o => e4.frozen (p := ⟨b2, o, none⟩) h2, Nat.lt_of_lt_of_le h0 e4.size, Nat.lt_of_lt_of_le h1 e4.size, Nat.lt_of_lt_of_le h2 e4.size⟩
/-- What a ratio's call answers, with the lengths named. -/
def RetR (w : World) (r : Rat) (e : Ending) (w' : World) : Prop := ∃ sg a1 c1 l1 a2 c2 l2, e = .returned (.agg #[.bool sg, .slice a1 l1 c1, .slice a2 l2 c2]) ∧ RawV w' a1 a2 l1 l2 r.num.natAbs r.den ∧ Below w.heap.size w w' ∧ sg = decide (r.num < 0)
theorem lowest_kept (neg : Bool) (a1 a2 : Option Addr) (c1 c2 l1 l2 n d b0 b1 b : Nat) (w : World) (h : RawV w a1 a2 l1 l2 n d) (hb1 : l1 < 536870912) (hb2 : l2 < 536870912) (hd : 0 < d) (q0 : b0 < w.heap.size) (q1 : b1 < w.heap.size) (h2 : b < w.heap.size) :
    Calls Tryz.prog 77 #[.agg #[.bool neg, .slice a1 l1 c1, .slice a2 l2 c2]] w fun e w' => ∃ sg a1 c1 l1 a2 c2 l2, e = .returned (.agg #[.bool sg, .slice a1 l1 c1, .slice a2 l2 c2]) ∧ Hid (RawV w' a1 a2 l1 l2 (mkRat (sgn neg n) d).num.natAbs (mkRat (sgn neg n) d).den ∧ Below w.heap.size w w' ∧ sg = decide ((mkRat (sgn neg n) d).num < 0)) ∧
      (∀ o, w'.cell? ⟨b0, o, none⟩ = w.cell? ⟨b0, o, none⟩) ∧ (∀ o, w'.cell? ⟨b1, o, none⟩ = w.cell? ⟨b1, o, none⟩) ∧ (∀ o, w'.cell? ⟨b, o, none⟩ = w.cell? ⟨b, o, none⟩) ∧ (∀ o, w'.frozen? ⟨b, o, none⟩ = w.frozen? ⟨b, o, none⟩) ∧ b0 < w'.heap.size ∧ b1 < w'.heap.size ∧ b < w'.heap.size := by
  obtain ⟨rfl, rfl, r1, r2⟩ := h
  refine (lowest_any neg a1 a2 c1 c2 n d w r1 r2 hb1 hb2 hd).mono ?_
  rintro e w' ⟨x1, k1, x2, k2, rfl, h3, h4, h5⟩
  exact ⟨_, x1, k1, _, x2, k2, _, rfl, Lib.hid ⟨⟨rfl, rfl, h3, h4⟩, h5, rfl⟩, fun o => h5.cell (p := ⟨b0, o, none⟩) q0, fun o => h5.cell (p := ⟨b1, o, none⟩) q1, fun o => h5.cell (p := ⟨b, o, none⟩) h2, fun o => h5.frozen (p := ⟨b, o, none⟩) h2, Nat.lt_of_lt_of_le q0 h5.size, Nat.lt_of_lt_of_le q1 h5.size, Nat.lt_of_lt_of_le h2 h5.size⟩
set_option maxRecDepth 20000 in
set_option maxHeartbeats 3200000 in
theorem timesR_raw (s1 s2 : Bool) (a1 a2 b1 b2 : Option Addr) (c1 c2 k1 k2 l1 l2 m1 m2 n1 d1 n2 d2 : Nat) (w : World) (h1 : RawV w a1 a2 l1 l2 n1 d1) (h2 : RawV w b1 b2 m1 m2 n2 d2) (q1 : l1 < 134217728) (q2 : l2 < 134217728) (q3 : m1 < 134217728) (q4 : m2 < 134217728) (hd1 : 0 < d1) (hd2 : 0 < d2) :
    Calls Tryz.prog 35 #[.agg #[.bool s1, .slice a1 l1 c1, .slice a2 l2 c2], .agg #[.bool s2, .slice b1 m1 k1, .slice b2 m2 k2]] w (RetR w (mkRat (sgn (s1 != s2) (n1 * n2)) (d1 * d2))) := by
  have HA : Below w.heap.size w (((w.alloc (.cells #[.bool s1, .slice a1 l1 c1, .slice a2 l2 c2] 66)).alloc (.cells #[.bool s2, .slice b1 m1 k1, .slice b2 m2 k2] 66)).alloc (.cells #[.bool false, .slice none 0 0, .slice none 0 0] 66)).drew := ((((Below.refl _ w).alloc (Nat.le_refl _) _).alloc (by simp) _).alloc (by simp only [alloc_size]; omega) _).drew
  have H := Lib.hid (And.intro h1 (And.intro h2 (And.intro HA (And.intro hd1 hd2))))
  have hdd : 0 < d1 * d2 := Nat.mul_pos hd1 hd2
  have HDD := Lib.hid hdd
  clear h1 h2 HA hd1 hd2 hdd
  obtain ⟨R, hR⟩ : ∃ R, mkRat (sgn (s1 != s2) (n1 * n2)) (d1 * d2) = R := ⟨_, rfl⟩
  rw [hR]
  have HR := Lib.hid hR
  clear hR
  go_enter Tryz.func35, Tryz.ntmps35
  go_wp2_with fail
  obtain ⟨t0, t1, t2⟩ := three_boxes w (.cells #[.bool s1, .slice a1 l1 c1, .slice a2 l2 c2] 66) (.cells #[.bool s2, .slice b1 m1 k1, .slice b2 m2 k2] 66) (.cells #[.bool false, .slice none 0 0, .slice none 0 0] 66)
  obtain ⟨⟨z0, z1, z2⟩, _, _, _⟩ := tri_cells t0
  obtain ⟨⟨z3, z4, z5⟩, _, _, _⟩ := tri_cells t1
  obtain ⟨⟨z6, z7, z8⟩, z9, z10, z11⟩ := tri_cells t2
  obtain ⟨wS, hwS⟩ : ∃ w', (((w.alloc (.cells #[.bool s1, .slice a1 l1 c1, .slice a2 l2 c2] 66)).alloc (.cells #[.bool s2, .slice b1 m1 k1, .slice b2 m2 k2] 66)).alloc (.cells #[.bool false, .slice none 0 0, .slice none 0 0] 66)) = w' := ⟨_, rfl⟩
  have zs : wS.heap.size = w.heap.size + 1 + 1 + 1 := by rw [← hwS]; simp only [alloc_size]
  rw [hwS] at z0 z1 z2 z3 z4 z5 z6 z7 z8 z9 z10 z11 H ⊢
  clear hwS t0 t1 t2
  have hne1 : w.heap.size + 1 + 1 ≠ w.heap.size := by omega
  have hne2 : w.heap.size ≠ w.heap.size + 1 + 1 := by omega
  go_region_held3 (fun w' => w'.cell? ⟨w.heap.size, 0, none⟩ = some (.bool s1) ∧ w'.cell? ⟨w.heap.size, 1, none⟩ = some (.slice a1 l1 c1) ∧ w'.cell? ⟨w.heap.size, 2, none⟩ = some (.slice a2 l2 c2) ∧
      w'.cell? ⟨w.heap.size + 1, 0, none⟩ = some (.bool s2) ∧ w'.cell? ⟨w.heap.size + 1, 1, none⟩ = some (.slice b1 m1 k1) ∧ w'.cell? ⟨w.heap.size + 1, 2, none⟩ = some (.slice b2 m2 k2) ∧
      w'.cell? ⟨w.heap.size + 1 + 1, 0, none⟩ = some (oldVal w' ⟨w.heap.size + 1 + 1, 0, none⟩) ∧ w'.cell? ⟨w.heap.size + 1 + 1, 1, none⟩ = some (oldVal w' ⟨w.heap.size + 1 + 1, 1, none⟩) ∧ w'.cell? ⟨w.heap.size + 1 + 1, 2, none⟩ = some (oldVal w' ⟨w.heap.size + 1 + 1, 2, none⟩) ∧
      w'.frozen? ⟨w.heap.size + 1 + 1, 0, none⟩ = false ∧ w'.frozen? ⟨w.heap.size + 1 + 1, 1, none⟩ = false ∧ w'.frozen? ⟨w.heap.size + 1 + 1, 2, none⟩ = false ∧ w.heap.size < w'.heap.size ∧ w.heap.size + 1 < w'.heap.size ∧ w.heap.size + 1 + 1 < w'.heap.size)
    ((repeat' refine And.intro ?_ ?_) <;> first | (go_keep; done) | (refine oldVal_of ?_; (repeat refine some_set ?_); go_keep; done) | (go_keep; omega))
    (first
      | (go_at_call_of 73 (Value.slice a1 l1 c1); refine (natTimes_kept n1 n2 l1 m1 w.heap.size (w.heap.size + 1) (w.heap.size + 1 + 1) a1 b1 c1 k1 _ H.out.1.e1 H.out.2.1.e1 (H.out.1.r1.below H.out.2.2.1) (H.out.2.1.r1.below H.out.2.2.1) q1 q3 ?_ ?_ ?_).mono ?_; (first | omega | (simp [*]; done) | (simp [*]; omega)); (first | omega | (simp [*]; done) | (simp [*]; omega)); (first | omega | (simp [*]; done) | (simp [*]; omega)); rintro e w5 ⟨x1, g1, t1, rfl, hX1, p0, p1, p2, p3, p4, p5, p6⟩)
      | (go_at_call_of 73 (Value.slice a2 l2 c2); refine (natTimes_kept d1 d2 l2 m2 w.heap.size (w.heap.size + 1) (w.heap.size + 1 + 1) a2 b2 c2 k2 _ H.out.1.e2 H.out.2.1.e2 (H.out.1.r2.below (bthen H.out.2.2.1 hX1.out.2.1)) (H.out.2.1.r2.below (bthen H.out.2.2.1 hX1.out.2.1)) q2 q4 ?_ ?_ ?_).mono ?_; (first | omega | (simp [*]; done) | (simp [*]; omega)); (first | omega | (simp [*]; done) | (simp [*]; omega)); (first | omega | (simp [*]; done) | (simp [*]; omega)); rintro e w6 ⟨x2, g2, t2, rfl, hX2, r0, r1, r2, r3, r4, r5, r6⟩)
      | (go_at_call 77; refine (lowest_kept (!(s1 == s2)) x1 x2 g1 g2 t1 t2 (n1 * n2) (d1 * d2) w.heap.size (w.heap.size + 1) (w.heap.size + 1 + 1) _ ⟨hX1.out.2.2.1, hX2.out.2.2.1, hX1.out.1.below hX2.out.2.1, hX2.out.1⟩ (by have := hX1.out.2.2.2; omega) (by have := hX2.out.2.2.2; omega) HDD.out ?_ ?_ ?_).mono ?_; (first | omega | (simp [*]; done) | (simp [*]; omega)); (first | omega | (simp [*]; done) | (simp [*]; omega)); (first | omega | (simp [*]; done) | (simp [*]; omega)); rintro e w7 ⟨sg, y1, u1, v1, y2, u2, v2, rfl, hY, s0, s1', s2', s3, s4, s5, s6⟩))
  go_wp2_with fail
  rename_i hHeld
  clear hHeld
  have hR := HR.out
  obtain ⟨hv, hbl, hsg⟩ := hY.out
  rw [show mkRat (sgn (!(s1 == s2)) (n1 * n2)) (d1 * d2) = R from hR] at hv hsg
  have hb : Below w.heap.size w w7 := bthen (bthen (bthen H.out.2.2.1 hX1.out.2.1) hX2.out.2.1) hbl
  have g0 : w7.cell? ⟨w.heap.size + 1 + 1, 0, none⟩ = some (.bool false) := by rw [s2' 0, r2 0, p2 0]; exact z6
  have g1' : w7.cell? ⟨w.heap.size + 1 + 1, 1, none⟩ = some (.slice none 0 0) := by rw [s2' 1, r2 1, p2 1]; exact z7
  have g2' : w7.cell? ⟨w.heap.size + 1 + 1, 2, none⟩ = some (.slice none 0 0) := by rw [s2' 2, r2 2, p2 2]; exact z8
  have hI : Ints w7 (set3 w7 (w.heap.size + 1 + 1) (.bool sg) (.slice y1 v1 u1) (.slice y2 v2 u2)) := ints_set3 _ _ _ (by rw [g0]; simp) (by rw [g1']; simp) (by rw [g2']; simp)
  refine bodyPost_ret (v := .agg #[.bool sg, .slice y1 v1 u1, .slice y2 v2 u2]) (by simp [results, Tryz.results35, go_sem, *]) rfl ⟨sg, y1, u1, v1, y2, u2, v2, rfl, hv.ints hI, ?_, hsg⟩
  exact below_set3 hb (by omega) _ _ _
end Go.Proofs.YtaneocedklnajaaGreat
/- Ratios: the quotient, the opposite. Condition: the digits' lengths stay below 2 to the power of 27. -/
namespace Go.Proofs.YtaneocedklnajaaGreat
open Go.RowKit
set_option linter.unusedVariables false

theorem opposite_any (s : Bool) (a1 a2 : Option Addr) (l1 l2 c1 c2 : Nat) (w : World) : Calls Tryz.prog 93 #[.agg #[.bool s, .slice a1 l1 c1, .slice a2 l2 c2]] w fun e w' => e = .returned (.agg #[.bool (!s && decide (0 < l1)), .slice a1 l1 c1, .slice a2 l2 c2]) ∧ Below w.heap.size w w' := by
  cases s with
  | true =>
    go_enter Tryz.func93, Tryz.ntmps93
    go_wp2_with fail
    refine bodyPost_ret (v := .agg #[.bool false, .slice a1 l1 c1, .slice a2 l2 c2]) (by simp [results, Tryz.results93, go_sem, *]) rfl ⟨rfl, ?_⟩
    exact ((Below.refl _ w).alloc (Nat.le_refl _) _).alloc (by simp) _
  | false =>
    by_cases h : 0 < l1
    · have hl : (0:Int) < (l1:Int) := by omega
      rw [decide_eq_true h]
      go_enter Tryz.func93, Tryz.ntmps93
      go_wp2_with fail
      refine bodyPost_ret (v := .agg #[.bool true, .slice a1 l1 c1, .slice a2 l2 c2]) (by simp [results, Tryz.results93, go_sem, *]) rfl ⟨rfl, ?_⟩
      exact ((Below.refl _ w).alloc (Nat.le_refl _) _).alloc (by simp) _
    · obtain rfl : l1 = 0 := by omega
      go_enter Tryz.func93, Tryz.ntmps93
      go_wp2_with fail
      refine bodyPost_ret (v := .agg #[.bool false, .slice a1 0 c1, .slice a2 l2 c2]) (by simp [results, Tryz.results93, go_sem, *]) rfl ⟨rfl, ?_⟩
      exact ((Below.refl _ w).alloc (Nat.le_refl _) _).alloc (by simp) _
end Go.Proofs.YtaneocedklnajaaGreat
/- Ratios: the sum. Condition: the digits' lengths stay below 2 to the power of 26. -/
namespace Go.Proofs.YtaneocedklnajaaGreat
open Go.RowKit
set_option linter.unusedVariables false

theorem digs_len_add (x y : Nat) : (digs (x + y)).length ≤ max (digs x).length (digs y).length + 1 := by
  refine digs_len_le ?_
  obtain ⟨k, hk⟩ : ∃ k, max (digs x).length (digs y).length = k := ⟨_, rfl⟩
  rw [hk]
  have h1 : x < bse ^ k := Nat.lt_of_lt_of_le (digs_lt x) (Nat.pow_le_pow_right bse_pos (by omega))
  have h2 : y < bse ^ k := Nat.lt_of_lt_of_le (digs_lt y) (Nat.pow_le_pow_right bse_pos (by omega))
  have h3 : bse ^ (k + 1) = bse ^ k * bse := Nat.pow_succ bse k
  rw [h3, bse_eq]
  rw [bse_eq] at h1 h2
  generalize (4294967296 : Nat) ^ k = P at h1 h2
  omega
/-- The three boxes of a sum: both arguments and the answer. -/
structure Bx3 (w w' : World) (s1 s2 : Bool) (a1 a2 b1 b2 : Option Addr) (l1 l2 m1 m2 c1 c2 k1 k2 : Nat) : Prop where
  x : w'.heap[w.heap.size]? = some (.cells #[.bool s1, .slice a1 l1 c1, .slice a2 l2 c2] 66 (0, 0))
  y : w'.heap[w.heap.size + 1]? = some (.cells #[.bool s2, .slice b1 m1 k1, .slice b2 m2 k2] 66 (0, 0))
  z : w'.heap[w.heap.size + 1 + 1]? = some (.cells #[.bool false, .slice none 0 0, .slice none 0 0] 66 (0, 0))
theorem Bx3.below {w w' w'' : World} {s1 s2 : Bool} {a1 a2 b1 b2 : Option Addr} {l1 l2 m1 m2 c1 c2 k1 k2 : Nat} (h : Bx3 w w' s1 s2 a1 a2 b1 b2 l1 l2 m1 m2 c1 c2 k1 k2) (hb : Below w'.heap.size w' w'') : Bx3 w w'' s1 s2 a1 a2 b1 b2 l1 l2 m1 m2 c1 c2 k1 k2 :=
  ⟨(hb.block _ (lt_of_heap h.x)).trans h.x, (hb.block _ (lt_of_heap h.y)).trans h.y, (hb.block _ (lt_of_heap h.z)).trans h.z⟩
theorem below_e1 (w : World) (o : Obj) : Below w.heap.size w (w.drew.alloc o) := (Below.refl _ w).drew.alloc (Nat.le_refl _) o
/-- A box of a ratio. -/
structure C3 (w : World) (b : Nat) (x y z : Value) : Prop where
  c0 : w.cell? ⟨b, 0, none⟩ = some x
  c1 : w.cell? ⟨b, 1, none⟩ = some y
  c2 : w.cell? ⟨b, 2, none⟩ = some z
  f0 : w.frozen? ⟨b, 0, none⟩ = false
  f1 : w.frozen? ⟨b, 1, none⟩ = false
  f2 : w.frozen? ⟨b, 2, none⟩ = false
  lt : b < w.heap.size
theorem C3.of_heap {w : World} {b t : Nat} {x y z : Value} (h : w.heap[b]? = some (.cells #[x, y, z] t (0, 0))) : C3 w b x y z := by
  obtain ⟨⟨c0, c1, c2⟩, f0, f1, f2⟩ := tri_cells h
  exact ⟨c0, c1, c2, f0, f1, f2, lt_of_heap h⟩
theorem C3.new (w : World) (t : Nat) (x y z : Value) : C3 (w.alloc (.cells #[x, y, z] t (0, 0))) w.heap.size x y z := C3.of_heap (heap_at_new w _)
theorem C3.below {w w' : World} {b B : Nat} {x y z : Value} (h : C3 w b x y z) (hlt : b < B) (hb : Below B w w') (hs : w.heap.size ≤ w'.heap.size) : C3 w' b x y z :=
  ⟨(hb.cell (p := ⟨b, 0, none⟩) hlt).trans h.c0, (hb.cell (p := ⟨b, 1, none⟩) hlt).trans h.c1, (hb.cell (p := ⟨b, 2, none⟩) hlt).trans h.c2, (hb.frozen (p := ⟨b, 0, none⟩) hlt).trans h.f0, (hb.frozen (p := ⟨b, 1, none⟩) hlt).trans h.f1, (hb.frozen (p := ⟨b, 2, none⟩) hlt).trans h.f2, Nat.lt_of_lt_of_le h.lt hs⟩
theorem C3.set0 {w : World} {b : Nat} {x y z : Value} (h : C3 w b x y z) (v : Value) : C3 (w.setCell ⟨b, 0, none⟩ v) b v y z :=
  ⟨World.cell?_setCell_same _ _ _ h.c0, by rw [World.cell?_setCell_other _ _ _ _ (by simp)]; exact h.c1, by rw [World.cell?_setCell_other _ _ _ _ (by simp)]; exact h.c2, by rw [World.frozen?_setCell]; exact h.f0, by rw [World.frozen?_setCell]; exact h.f1, by rw [World.frozen?_setCell]; exact h.f2, by rw [World.size_setCell]; exact h.lt⟩
theorem C3.set1 {w : World} {b : Nat} {x y z : Value} (h : C3 w b x y z) (v : Value) : C3 (w.setCell ⟨b, 1, none⟩ v) b x v z :=
  ⟨by rw [World.cell?_setCell_other _ _ _ _ (by simp)]; exact h.c0, World.cell?_setCell_same _ _ _ h.c1, by rw [World.cell?_setCell_other _ _ _ _ (by simp)]; exact h.c2, by rw [World.frozen?_setCell]; exact h.f0, by rw [World.frozen?_setCell]; exact h.f1, by rw [World.frozen?_setCell]; exact h.f2, by rw [World.size_setCell]; exact h.lt⟩
theorem C3.set2 {w : World} {b : Nat} {x y z : Value} (h : C3 w b x y z) (v : Value) : C3 (w.setCell ⟨b, 2, none⟩ v) b x y v :=
  ⟨by rw [World.cell?_setCell_other _ _ _ _ (by simp)]; exact h.c0, by rw [World.cell?_setCell_other _ _ _ _ (by simp)]; exact h.c1, World.cell?_setCell_same _ _ _ h.c2, by rw [World.frozen?_setCell]; exact h.f0, by rw [World.frozen?_setCell]; exact h.f1, by rw [World.frozen?_setCell]; exact h.f2, by rw [World.size_setCell]; exact h.lt⟩
theorem C3.other {w : World} {b g o : Nat} {x y z : Value} (h : C3 w b x y z) (hne : g ≠ b) (v : Value) : C3 (w.setCell ⟨g, o, none⟩ v) b x y z := by
  have e : ∀ p, (⟨g, o, none⟩ : Addr) ≠ ⟨b, p, none⟩ := fun p e => hne (by injection e)
  exact ⟨by rw [World.cell?_setCell_other _ _ _ _ (e 0)]; exact h.c0, by rw [World.cell?_setCell_other _ _ _ _ (e 1)]; exact h.c1, by rw [World.cell?_setCell_other _ _ _ _ (e 2)]; exact h.c2, by rw [World.frozen?_setCell]; exact h.f0, by rw [World.frozen?_setCell]; exact h.f1, by rw [World.frozen?_setCell]; exact h.f2, by rw [World.size_setCell]; exact h.lt⟩
theorem natPlus_all (x y m n : Nat) (a1 a2 : Option Addr) (c1 c2 : Nat) (w : World) (hm : (digs x).length = m) (hn : (digs y).length = n) (hx : IsU32s w a1 m (digs x)) (hy : IsU32s w a2 n (digs y)) (hb1 : m < 536870911) (hb2 : n < 536870911) :
    Calls Tryz.prog 74 #[.slice a1 m c1, .slice a2 n c2] w fun e w' => ∃ a cap l, e = .returned (.slice a l cap) ∧ Hid (IsU32s w' a l (digs (x + y)) ∧ Below w.heap.size w w' ∧ (digs (x + y)).length = l ∧ l < 536870912) := by
  subst hm
  subst hn
  refine (natPlus_any a1 a2 c1 c2 x y w hx hy (by omega) (by omega)).mono ?_
  rintro e w' ⟨a, cap, rfl, _, e3, e4⟩
  have hl := digs_len_add x y
  exact ⟨a, cap, _, rfl, Lib.hid ⟨e3, e4, rfl, by omega⟩⟩
theorem natCompare_all (x y m n : Nat) (a1 a2 : Option Addr) (c1 c2 : Nat) (w : World) (hm : (digs x).length = m) (hn : (digs y).length = n) (hx : IsU32s w a1 m (digs x)) (hy : IsU32s w a2 n (digs y)) (hb1 : m < 536870911) (hb2 : n < 536870911) :
    Calls Tryz.prog 75 #[.slice a1 m c1, .slice a2 n c2] w fun e w' => ∃ c, e = .returned (.int .i64 c) ∧ Hid (CmpIs x y c ∧ Below w.heap.size w w') := by
  subst hm
  subst hn
  refine (natCompare_any a1 a2 c1 c2 x y w hx hy (by omega) (by omega)).mono ?_
  rintro e w' ⟨c, _, _, e3, rfl, e4⟩
  exact ⟨c, rfl, Lib.hid ⟨e3, e4⟩⟩
theorem natMinus_all (x y m n b0 b1 : Nat) (a1 a2 : Option Addr) (c1 c2 : Nat) (w : World) (hle : y ≤ x) (hm : (digs x).length = m) (hn : (digs y).length = n) (hx : IsU32s w a1 m (digs x)) (hy : IsU32s w a2 n (digs y)) (hb1 : m < 536870911) (hb2 : n < 536870911) (h0 : b0 < w.heap.size) (h1 : b1 < w.heap.size) :
    Calls Tryz.prog 76 #[.slice a1 m c1, .slice a2 n c2] w fun e w' => ∃ a cap l, e = .returned (.slice a l cap) ∧ Hid (IsU32s w' a l (digs (x - y)) ∧ Below w.heap.size w w' ∧ (digs (x - y)).length = l ∧ l < 536870912) ∧
      (∀ o, w'.cell? ⟨b0, o, none⟩ = w.cell? ⟨b0, o, none⟩) ∧ (∀ o, w'.cell? ⟨b1, o, none⟩ = w.cell? ⟨b1, o, none⟩) ∧ (∀ o, w'.frozen? ⟨b1, o, none⟩ = w.frozen? ⟨b1, o, none⟩) ∧ b0 < w'.heap.size ∧ b1 < w'.heap.size := by
  subst hm
  subst hn
  have hq := natMinus_any a1 a2 _ _ c1 c2 (digs x) (digs y) w hx hy (digs_ok _) (digs_ok _) (digs_len_mono hle) (by omega) (by rw [dval_digs, dval_digs]; exact hle)
  rw [dval_digs, dval_digs] at hq
  refine hq.mono ?_
  rintro e w' ⟨a, cap, rfl, _, e3, e4⟩
  have hl := digs_len_mono (Nat.sub_le x y)
  exact ⟨a, cap, _, rfl, Lib.hid ⟨e3, e4, rfl, by omega⟩, fun o => e4.cell (p := ⟨b0, o, none⟩) h0, fun o => e4.cell (p := ⟨b1, o, none⟩) h1, fun o => e4.frozen (p := ⟨b1, o, none⟩) h1, Nat.lt_of_lt_of_le h0 e4.size, Nat.lt_of_lt_of_le h1 e4.size⟩
theorem natTimes_all (x y m n N : Nat) (a1 a2 : Option Addr) (c1 c2 : Nat) (w : World) (hN : N ≤ w.heap.size) (hm : (digs x).length = m) (hn : (digs y).length = n) (hx : IsU32s w a1 m (digs x)) (hy : IsU32s w a2 n (digs y)) (hb1 : m < 134217728) (hb2 : n < 134217728) :
    Calls Tryz.prog 73 #[.slice a1 m c1, .slice a2 n c2] w fun e w' => ∃ a cap l, e = .returned (.slice a l cap) ∧ Hid (IsU32s w' a l (digs (x * y)) ∧ Below w.heap.size w w' ∧ (digs (x * y)).length = l ∧ l < 268435456) ∧
      (∀ b o, b < N → w'.cell? ⟨b, o, none⟩ = w.cell? ⟨b, o, none⟩) ∧ (N < w.heap.size → ∀ o, w'.cell? ⟨N, o, none⟩ = w.cell? ⟨N, o, none⟩) ∧ (N < w.heap.size → ∀ o, w'.frozen? ⟨N, o, none⟩ = w.frozen? ⟨N, o, none⟩) ∧ N ≤ w'.heap.size := by
  subst hm
  subst hn
  refine (natTimes_any a1 a2 c1 c2 x y w hx hy (by omega) (by omega)).mono ?_
  rintro e w' ⟨a, cap, rfl, _, e3, e4⟩
  have hl := digs_len_mul x y
  exact ⟨a, cap, _, rfl, Lib.hid ⟨e3, e4, rfl, by omega⟩, fun b o h => e4.cell (p := ⟨b, o, none⟩) (Nat.lt_of_lt_of_le h hN), fun h o => e4.cell (p := ⟨N, o, none⟩) h, fun h o => e4.frozen (p := ⟨N, o, none⟩) h, Nat.le_trans hN e4.size⟩
theorem sgn_add (s : Bool) (a b : Nat) : sgn s (a + b) = sgn s a + sgn s b := by cases s <;> simp [sgn] <;> omega
theorem sgn_sub (s : Bool) {a b : Nat} (h : b ≤ a) : sgn s (a - b) = sgn s a + sgn (!s) b := by cases s <;> simp [sgn] <;> omega
theorem sgn_sub2 (s : Bool) {a b : Nat} (h : a ≤ b) : sgn (!s) (b - a) = sgn s a + sgn (!s) b := by cases s <;> simp [sgn] <;> omega
theorem C3.noint1 {w : World} {b : Nat} {x z : Value} {a : Option Addr} {l c : Nat} (h : C3 w b x (.slice a l c) z) (v : Value) : Ints w (w.setCell ⟨b, 1, none⟩ v) := Ints.set (by rw [h.c1]; simp)
theorem C3.noint0 {w : World} {b : Nat} {y z : Value} {s : Bool} (h : C3 w b (.bool s) y z) (v : Value) : Ints w (w.setCell ⟨b, 0, none⟩ v) := Ints.set (by rw [h.c0]; simp)
set_option maxRecDepth 20000 in
set_option maxHeartbeats 6400000 in
theorem plusR_raw (s1 s2 : Bool) (a1 a2 b1 b2 : Option Addr) (c1 c2 k1 k2 l1 l2 m1 m2 n1 d1 n2 d2 : Nat) (w : World) (h1 : RawV w a1 a2 l1 l2 n1 d1) (h2 : RawV w b1 b2 m1 m2 n2 d2) (q1 : l1 < 67108864) (q2 : l2 < 67108864) (q3 : m1 < 67108864) (q4 : m2 < 67108864) (hd1 : 0 < d1) (hd2 : 0 < d2) :
    Calls Tryz.prog 33 #[.agg #[.bool s1, .slice a1 l1 c1, .slice a2 l2 c2], .agg #[.bool s2, .slice b1 m1 k1, .slice b2 m2 k2]] w (RetR w (mkRat (sgn s1 (n1 * d2) + sgn s2 (n2 * d1)) (d1 * d2))) := by
  have HA : Below w.heap.size w (((w.alloc (.cells #[.bool s1, .slice a1 l1 c1, .slice a2 l2 c2] 66)).alloc (.cells #[.bool s2, .slice b1 m1 k1, .slice b2 m2 k2] 66)).alloc (.cells #[.bool false, .slice none 0 0, .slice none 0 0] 66)) := (((Below.refl _ w).alloc (Nat.le_refl _) _).alloc (by simp) _).alloc (by simp only [alloc_size]; omega) _
  obtain ⟨t0, t1, t2⟩ := three_boxes w (.cells #[.bool s1, .slice a1 l1 c1, .slice a2 l2 c2] 66) (.cells #[.bool s2, .slice b1 m1 k1, .slice b2 m2 k2] 66) (.cells #[.bool false, .slice none 0 0, .slice none 0 0] 66)
  obtain ⟨wS, hwS⟩ : ∃ w', (((w.alloc (.cells #[.bool s1, .slice a1 l1 c1, .slice a2 l2 c2] 66)).alloc (.cells #[.bool s2, .slice b1 m1 k1, .slice b2 m2 k2] 66)).alloc (.cells #[.bool false, .slice none 0 0, .slice none 0 0] 66)) = w' := ⟨_, rfl⟩
  have zs : wS.heap.size = w.heap.size + 1 + 1 + 1 := by rw [← hwS]; simp only [alloc_size]
  rw [hwS] at t0 t1 t2 HA
  have HB := Lib.hid (show Bx3 w wS s1 s2 a1 a2 b1 b2 l1 l2 m1 m2 c1 c2 k1 k2 from ⟨t0, t1, t2⟩)
  obtain ⟨⟨z0, z1, z2⟩, _⟩ := tri_cells t0
  obtain ⟨⟨z3, z4, z5⟩, _⟩ := tri_cells t1
  obtain ⟨⟨z6, z7, z8⟩, z9, z10, z11⟩ := tri_cells t2
  have H := Lib.hid (And.intro h1 (And.intro h2 (And.intro HA (And.intro hd1 hd2))))
  have HDD := Lib.hid (Nat.mul_pos hd1 hd2)
  clear t0 t1 t2 h1 h2 HA hd1 hd2
  obtain ⟨R, hR⟩ : ∃ R, mkRat (sgn s1 (n1 * d2) + sgn s2 (n2 * d1)) (d1 * d2) = R := ⟨_, rfl⟩
  rw [hR]
  have HR := Lib.hid hR
  clear hR
  go_enter Tryz.func33, Tryz.ntmps33
  go_wp2_with fail
  have hne1 : w.heap.size + 1 + 1 ≠ w.heap.size := by omega
  have hne2 : w.heap.size ≠ w.heap.size + 1 + 1 := by omega
  go_region_held3 (fun w' => w'.cell? ⟨w.heap.size, 0, none⟩ = some (.bool s1) ∧ w'.cell? ⟨w.heap.size, 1, none⟩ = some (.slice a1 l1 c1) ∧ w'.cell? ⟨w.heap.size, 2, none⟩ = some (.slice a2 l2 c2) ∧
      w'.cell? ⟨w.heap.size + 1, 0, none⟩ = some (.bool s2) ∧ w'.cell? ⟨w.heap.size + 1, 1, none⟩ = some (.slice b1 m1 k1) ∧ w'.cell? ⟨w.heap.size + 1, 2, none⟩ = some (.slice b2 m2 k2) ∧
      w'.cell? ⟨w.heap.size + 1 + 1, 0, none⟩ = some (.bool false) ∧ w'.cell? ⟨w.heap.size + 1 + 1, 1, none⟩ = some (.slice none 0 0) ∧ w'.cell? ⟨w.heap.size + 1 + 1, 2, none⟩ = some (.slice none 0 0) ∧
      w'.frozen? ⟨w.heap.size + 1 + 1, 0, none⟩ = false ∧ w'.frozen? ⟨w.heap.size + 1 + 1, 1, none⟩ = false ∧ w'.frozen? ⟨w.heap.size + 1 + 1, 2, none⟩ = false ∧ w.heap.size < w'.heap.size ∧ w.heap.size + 1 < w'.heap.size ∧ w.heap.size + 1 + 1 < w'.heap.size)
    ((repeat' refine And.intro ?_ ?_) <;> first | (go_keep; done) | (go_keep; omega))
    (first
      | (go_at_call_of 73 (Value.slice a1 l1 c1); refine (natTimes_kept n1 d2 l1 m2 w.heap.size (w.heap.size + 1) (w.heap.size + 1 + 1) a1 b2 c1 k2 _ H.out.1.e1 H.out.2.1.e2 (H.out.1.r1.below H.out.2.2.1.drew) (H.out.2.1.r2.below H.out.2.2.1.drew) (by omega) (by omega) ?_ ?_ ?_).mono ?_; (first | omega | (simp [*]; done) | (simp [*]; omega)); (first | omega | (simp [*]; done) | (simp [*]; omega)); (first | omega | (simp [*]; done) | (simp [*]; omega)); rintro e w5 ⟨x1, g1, t1, rfl, hX1, p0, p1, p2, p3, p4, p5, p6⟩)
      | (go_at_call_of 73 (Value.slice b1 m1 k1); refine (natTimes_kept n2 d1 m1 l2 w.heap.size (w.heap.size + 1) (w.heap.size + 1 + 1) b1 a2 k1 c2 _ H.out.2.1.e1 H.out.1.e2 (H.out.2.1.r1.below (bthen H.out.2.2.1.drew hX1.out.2.1)) (H.out.1.r2.below (bthen H.out.2.2.1.drew hX1.out.2.1)) (by omega) (by omega) ?_ ?_ ?_).mono ?_; (first | omega | (simp [*]; done) | (simp [*]; omega)); (first | omega | (simp [*]; done) | (simp [*]; omega)); (first | omega | (simp [*]; done) | (simp [*]; omega)); rintro e w6 ⟨x2, g2, t2, rfl, hX2, r0, r1, r2, r3, r4, r5, r6⟩))
  have hb6 : Below w.heap.size w w6 := bthen (bthen H.out.2.2.1.drew hX1.out.2.1) hX2.out.2.1
  have hB6 : Bx3 w w6 s1 s2 a1 a2 b1 b2 l1 l2 m1 m2 c1 c2 k1 k2 := ((HB.out.below (drewN_below wS 1)).below hX1.out.2.1).below hX2.out.2.1
  have HB6 := Lib.hid (And.intro hb6 (And.intro hB6 (And.intro (hX1.out.1.below hX2.out.2.1) (And.intro hX1.out.2.2 (And.intro hX2.out.1 hX2.out.2.2)))))
  have t1b := hX1.out.2.2.2
  have t2b := hX2.out.2.2.2
  rename_i hHeld
  clear hHeld p0 p1 p2 p3 p4 p5 p6 r0 r1 r2 r3 r4 r5 r6 hX1 hX2 z0 z1 z2 z3 z4 z5 z6 z7 z8 z9 z10 z11 hb6 hB6 HB hwS
  obtain ⟨⟨z0, z1, z2⟩, _⟩ := tri_cells HB6.out.2.1.x
  obtain ⟨⟨z3, z4, z5⟩, _⟩ := tri_cells HB6.out.2.1.y
  obtain ⟨⟨z6, z7, z8⟩, z9, z10, z11⟩ := tri_cells HB6.out.2.1.z
  have zs6 : w.heap.size + 1 + 1 < w6.heap.size := lt_of_heap HB6.out.2.1.z
  have zs5 : w.heap.size + 1 < w6.heap.size := by omega
  have zs4 : w.heap.size < w6.heap.size := by omega
  clear zs
  go_upto_region 2 with fail
  go_cut [7] (fun v7 wc => ∃ (b7 : Nat) (x3 : Option Addr) (g3 t3 : Nat), v7 = .pointer (some ⟨b7, 0, none⟩) ∧ Hid (C3 wc b7 (.bool s1) (.slice none 0 0) (.slice x3 t3 g3) ∧ w6.heap.size ≤ b7 ∧ Below w6.heap.size w6 wc ∧ IsU32s wc x3 t3 (digs (d1 * d2)) ∧ (digs (d1 * d2)).length = t3 ∧ t3 < 268435456))
  case first =>
    have hdw : w6.drew.heap.size = w6.heap.size := rfl
    have hda : ∀ o, (w6.alloc o).drew.heap.size = w6.heap.size + 1 := fun o => alloc_size w6 o
    have hds : ∀ o, (w6.drew.alloc o).heap.size = w6.heap.size + 1 := fun o => alloc_size w6.drew o
    have hn0 := World.new_ne w6 _ z0
    have hn1 := World.new_ne w6 _ z3
    have hn2 := World.new_ne w6 _ z6
    simp at hn0 hn1 hn2
    go_region_held3 (fun w' => w'.cell? ⟨w.heap.size, 0, none⟩ = some (.bool s1) ∧ w'.cell? ⟨w.heap.size, 2, none⟩ = some (.slice a2 l2 c2) ∧ w'.cell? ⟨w.heap.size + 1, 2, none⟩ = some (.slice b2 m2 k2) ∧ w.heap.size < w'.heap.size ∧ w.heap.size + 1 < w'.heap.size)
      ((repeat' refine And.intro ?_ ?_) <;> first | (go_keep; done) | (go_keep; omega))
      (first
        | (go_at_call_of 73 (Value.slice a2 l2 c2); refine (natTimes_all d1 d2 l2 m2 w6.heap.size a2 b2 c2 k2 _ ?_ H.out.1.e2 H.out.2.1.e2 (by first | exact H.out.1.r2.below (bthen HB6.out.1 (below_e1 w6 _)) | exact H.out.1.r2.below (bthen HB6.out.1 (Below.refl _ w6).drew)) (by first | exact H.out.2.1.r2.below (bthen HB6.out.1 (below_e1 w6 _)) | exact H.out.2.1.r2.below (bthen HB6.out.1 (Below.refl _ w6).drew)) (by omega) (by omega)).mono ?_; (first | exact Nat.le_refl _ | (rw [hda]; omega) | (rw [hds]; omega) | (simp; done)); rintro e w7 ⟨x3, g3, t3, rfl, hX3, r0, r1, r2, r3⟩; have r00 := (fun o => r0 w.heap.size o zs4); have r01 := (fun o => r0 (w.heap.size + 1) o zs5); have r4 : w.heap.size < w7.heap.size := (by omega); have r5 : w.heap.size + 1 < w7.heap.size := (by omega); clear r0))
    all_goals (go_wp2_with fail)
    all_goals go_meet
    · have hb7 : Below w6.heap.size w6 w7 := bthen (Below.refl _ w6).drew hX3.out.2.1
      exact ⟨w7.heap.size, x3, g3, t3, rfl, Lib.hid ⟨C3.new w7 _ _ _ _, r3, hb7.alloc r3 _, hX3.out.1.below ((Below.refl _ w7).alloc (Nat.le_refl _) _), hX3.out.2.2.1, hX3.out.2.2.2⟩⟩
    · have hn : C3 (w6.drew.alloc (.cells #[.bool false, .slice none 0 0, .slice none 0 0] 66)) w6.heap.size (.bool false) (.slice none 0 0) (.slice none 0 0) := C3.new w6.drew _ _ _ _
      have h7 : C3 w7 w6.heap.size (.bool false) (.slice none 0 0) (.slice none 0 0) := hn.below hn.lt hX3.out.2.1 hX3.out.2.1.size
      have hb7 : Below w6.heap.size w6 w7 := bthen (below_e1 w6 _) hX3.out.2.1
      have hI : Ints w7 (set3 w7 w6.heap.size (.bool s1) (.slice none 0 0) (.slice x3 t3 g3)) := ints_set3 _ _ _ (by rw [h7.c0]; simp) (by rw [h7.c1]; simp) (by rw [h7.c2]; simp)
      exact ⟨w6.heap.size, x3, g3, t3, rfl, Lib.hid ⟨((h7.set0 _).set1 _).set2 _, Nat.le_refl _, below_set3 hb7 (Nat.le_refl _) _ _ _, hX3.out.1.ints hI, hX3.out.2.2.1, hX3.out.2.2.2⟩⟩
  case rest =>
    obtain ⟨b7, x3, g3, t3, rfl, HC⟩ := hcut
    have hlt7 : w.heap.size + 1 + 1 < b7 := Nat.lt_of_lt_of_le zs6 HC.out.2.1
    have hsz := HC.out.1.lt
    have HX1 := Lib.hid (HB6.out.2.2.1.below HC.out.2.2.1)
    have HX2 := Lib.hid (HB6.out.2.2.2.2.1.below HC.out.2.2.1)
    have HE := Lib.hid (And.intro HB6.out.2.2.2.1.1 HB6.out.2.2.2.2.2.1)
    have HY := Lib.hid ((C3.of_heap HB6.out.2.1.y).below zs5 HC.out.2.2.1 HC.out.2.2.1.size)
    have HZ := Lib.hid ((C3.of_heap HB6.out.2.1.z).below zs6 HC.out.2.2.1 HC.out.2.2.1.size)
    have HW := Lib.hid (bthen HB6.out.1 HC.out.2.2.1)
    have hxx := (C3.of_heap HB6.out.2.1.x).below zs4 HC.out.2.2.1 HC.out.2.2.1.size
    clear z0 z1 z2 z3 z4 z5 z6 z7 z8 z9 z10 z11 HB6
    obtain ⟨z0, z1, z2, z3, z4, z5, z6⟩ := HC.out.1
    obtain ⟨y0, _, _, _, _, _, _⟩ := HY.out
    obtain ⟨x0, _, _, _, _, _, _⟩ := hxx
    clear z6
    go_upto_block 0 with fail
    go_cut [7] (fun v7 wd => v7 = .pointer (some ⟨b7, 0, none⟩) ∧ ∃ (sf : Bool) (xn : Option Addr) (gn tn nn : Nat), Hid (C3 wd b7 (.bool sf) (.slice xn tn gn) (.slice x3 t3 g3) ∧ C3 wd (w.heap.size + 1 + 1) (.bool false) (.slice none 0 0) (.slice none 0 0) ∧ Below w.heap.size w wd ∧ RawV wd xn x3 tn t3 nn (d1 * d2) ∧ tn < 536870912 ∧ t3 < 536870912 ∧ mkRat (sgn sf nn) (d1 * d2) = R))
    case first =>
      clear z1 z2 z3 z4 z5
      by_cases hs : s1 = s2
      · subst hs
        have hbe : (s1 == s1) = true := by simp
        go_wp2_with fail
        refine (natPlus_all (n1 * d2) (n2 * d1) t1 t2 x1 x2 g1 g2 _ HE.out.1 HE.out.2 HX1.out HX2.out (by omega) (by omega)).mono ?_
        rintro e w8 ⟨xn, gn, tn, rfl, HN⟩
        clear z0 y0 x0
        have H8 := Lib.hid (HC.out.1.below HC.out.1.lt HN.out.2.1 HN.out.2.1.size)
        have HZ8 := Lib.hid (HZ.out.below HZ.out.lt HN.out.2.1 HN.out.2.1.size)
        obtain ⟨z0, z1, z2, z3, z4, z5, z6⟩ := H8.out
        go_wp2_with fail
        go_meet
        exact ⟨rfl, s1, xn, gn, tn, _, Lib.hid ⟨H8.out.set1 _, HZ8.out.other (by omega) _, (bthen HW.out HN.out.2.1).setCell (p := ⟨b7, 1, none⟩) (by show w.heap.size ≤ b7; omega) _, ⟨HN.out.2.2.1, HC.out.2.2.2.2.1, HN.out.1.ints (H8.out.noint1 _), (HC.out.2.2.2.1.below HN.out.2.1).ints (H8.out.noint1 _)⟩, HN.out.2.2.2, by have := HC.out.2.2.2.2.2; omega, by rw [sgn_add]; exact HR.out⟩⟩
      · obtain rfl : s2 = !s1 := by cases s1 <;> cases s2 <;> simp_all
        have hbe : (s1 == !s1) = false := by simp
        clear hs
        go_wp2_with fail
        refine (natCompare_all (n1 * d2) (n2 * d1) t1 t2 x1 x2 g1 g2 _ HE.out.1 HE.out.2 HX1.out HX2.out (by omega) (by omega)).mono ?_
        rintro e w8 ⟨c, rfl, HN⟩
        clear z0 y0 x0
        have H8 := Lib.hid (HC.out.1.below HC.out.1.lt HN.out.2 HN.out.2.size)
        have HZ8 := Lib.hid (HZ.out.below HZ.out.lt HN.out.2 HN.out.2.size)
        have HY8 := Lib.hid (HY.out.below HY.out.lt HN.out.2 HN.out.2.size)
        by_cases hc : 0 ≤ c
        · have hle : n2 * d1 ≤ n1 * d2 := by have := HN.out.1.1; omega
          have HLE := Lib.hid hle
          clear hle
          go_wp2_with fail
          refine (natMinus_all (n1 * d2) (n2 * d1) t1 t2 b7 b7 x1 x2 g1 g2 _ HLE.out HE.out.1 HE.out.2 (HX1.out.below HN.out.2) (HX2.out.below HN.out.2) (by omega) (by omega) H8.out.lt H8.out.lt).mono ?_
          rintro e w9 ⟨xn, gn, tn, rfl, HM, m0, m1, m2, m3, m4⟩
          clear m0 m1 m2 m3 m4
          have H9 := Lib.hid (H8.out.below H8.out.lt HM.out.2.1 HM.out.2.1.size)
          have HZ9 := Lib.hid (HZ8.out.below HZ8.out.lt HM.out.2.1 HM.out.2.1.size)
          obtain ⟨z0, z1, z2, z3, z4, z5, z6⟩ := H9.out
          go_wp2_with fail
          go_meet
          exact ⟨rfl, s1, xn, gn, tn, _, Lib.hid ⟨H9.out.set1 _, HZ9.out.other (by omega) _, (bthen (bthen HW.out HN.out.2) HM.out.2.1).setCell (p := ⟨b7, 1, none⟩) (by show w.heap.size ≤ b7; omega) _, ⟨HM.out.2.2.1, HC.out.2.2.2.2.1, HM.out.1.ints (H9.out.noint1 _), ((HC.out.2.2.2.1.below HN.out.2).below HM.out.2.1).ints (H9.out.noint1 _)⟩, HM.out.2.2.2, by have := HC.out.2.2.2.2.2; omega, by rw [sgn_sub s1 HLE.out]; exact HR.out⟩⟩
        · have hle : n1 * d2 ≤ n2 * d1 := by have := HN.out.1.1; omega
          have HLE := Lib.hid hle
          clear hle
          obtain ⟨z0, z1, z2, z3, z4, z5, z6⟩ := H8.out
          obtain ⟨y0, _, _, _, _, _, y6⟩ := HY8.out
          go_wp2_with fail
          have hne : w.heap.size + 1 ≠ b7 := by omega
          have hne' : b7 ≠ w.heap.size + 1 := by omega
          go_region_held3 (fun w' => w'.cell? ⟨w.heap.size + 1, 0, none⟩ = some (.bool !s1) ∧ w'.cell? ⟨b7, 0, none⟩ = some (oldVal w' ⟨b7, 0, none⟩) ∧ w'.cell? ⟨b7, 1, none⟩ = some (oldVal w' ⟨b7, 1, none⟩) ∧ w'.frozen? ⟨b7, 0, none⟩ = false ∧ w'.frozen? ⟨b7, 1, none⟩ = false ∧ w.heap.size + 1 < w'.heap.size ∧ b7 < w'.heap.size)
            ((repeat' refine And.intro ?_ ?_) <;> first | (go_keep; done) | (refine oldVal_of ?_; (repeat refine some_set ?_); go_keep; done) | (go_keep; omega))
            (first
              | (go_at_call_of 76 (Value.slice x2 t2 g2); refine (natMinus_all (n2 * d1) (n1 * d2) t2 t1 (w.heap.size + 1) b7 x2 x1 g2 g1 _ HLE.out HE.out.2 HE.out.1 (by first | exact (HX2.out.below HN.out.2).below (Below.refl _ w8).drew | exact ((HX2.out.below HN.out.2).below (Below.refl _ w8).drew).ints (Ints.set (by rw [show w8.drew.cell? _ = _ from z0]; simp)) | exact ((HX2.out.below HN.out.2).ints (H8.out.noint0 _)).below (Below.refl _ _).drew) (by first | exact (HX1.out.below HN.out.2).below (Below.refl _ w8).drew | exact ((HX1.out.below HN.out.2).below (Below.refl _ w8).drew).ints (Ints.set (by rw [show w8.drew.cell? _ = _ from z0]; simp)) | exact ((HX1.out.below HN.out.2).ints (H8.out.noint0 _)).below (Below.refl _ _).drew) (by omega) (by omega) ?_ ?_).mono ?_; (first | omega | (simp [*]; done) | (simp [*]; omega)); (first | omega | (simp [*]; done) | (simp [*]; omega)); rintro e w9 ⟨xn, gn, tn, rfl, HM, m0, m1, m2, m3, m4⟩))
          all_goals (go_wp2_with fail)
          go_meet
          have h8 : Below w8.heap.size w8 w9 := bthen (Below.refl _ w8).drew HM.out.2.1
          have h9 := H8.out.below H8.out.lt h8 h8.size
          have hz9 := HZ8.out.below HZ8.out.lt h8 h8.size
          have hI := (h9.noint1 (.slice xn tn gn)).trans ((h9.set1 (.slice xn tn gn)).noint0 (.bool !s1))
          exact ⟨rfl, !s1, xn, gn, tn, _, Lib.hid ⟨(h9.set1 _).set0 _, (hz9.other (by omega) _).other (by omega) _, ((bthen (bthen HW.out HN.out.2) h8).setCell (p := ⟨b7, 1, none⟩) (by show w.heap.size ≤ b7; omega) _).setCell (p := ⟨b7, 0, none⟩) (by show w.heap.size ≤ b7; omega) _, ⟨HM.out.2.2.1, HC.out.2.2.2.2.1, HM.out.1.ints hI, ((HC.out.2.2.2.1.below HN.out.2).below h8).ints hI⟩, HM.out.2.2.2, by have := HC.out.2.2.2.2.2; omega, by rw [sgn_sub2 s1 HLE.out]; exact HR.out⟩⟩
    case rest =>
      obtain ⟨rfl, sf, xn, gn, tn, nn, HF⟩ := hcut
      obtain ⟨z0, z1, z2, z3, z4, z5, z6⟩ := HF.out.1
      clear y0 x0
      go_wp2_with fail
      refine (lowest_kept sf xn x3 gn g3 tn t3 nn (d1 * d2) b7 b7 (w.heap.size + 1 + 1) _ HF.out.2.2.2.1 HF.out.2.2.2.2.1 HF.out.2.2.2.2.2.1 HDD.out HF.out.1.lt HF.out.1.lt HF.out.2.1.lt).mono ?_
      rintro e w9 ⟨sg, y1, u1, v1, y2, u2, v2, rfl, hY, s0, s1', s2', s3, s4, s5, s6⟩
      clear s0 s1' s2' s3 s4 s5 s6
      obtain ⟨hv, hbl, hsg⟩ := hY.out
      have HR2 := Lib.hid HF.out.2.2.2.2.2.2
      rw [HR2.out] at hv hsg
      have HV := Lib.hid hv
      have HS := Lib.hid hsg
      have HB := Lib.hid (bthen HF.out.2.2.1 hbl)
      have HZ9 := Lib.hid (HF.out.2.1.below HF.out.2.1.lt hbl hbl.size)
      clear hv hsg hbl hY
      obtain ⟨k0, k1, k2, k3, k4, k5, k6⟩ := HZ9.out
      go_wp2_with fail
      have hI : Ints w9 (set3 w9 (w.heap.size + 1 + 1) (.bool sg) (.slice y1 v1 u1) (.slice y2 v2 u2)) := ints_set3 _ _ _ (by rw [HZ9.out.c0]; simp) (by rw [HZ9.out.c1]; simp) (by rw [HZ9.out.c2]; simp)
      refine bodyPost_ret (v := .agg #[.bool sg, .slice y1 v1 u1, .slice y2 v2 u2]) (by simp [results, Tryz.results33, go_sem, *]) rfl ⟨sg, y1, u1, v1, y2, u2, v2, rfl, HV.out.ints hI, ?_, HS.out⟩
      exact below_set3 HB.out (by omega) _ _ _
end Go.Proofs.YtaneocedklnajaaGreat
/- Ratios: the difference; all four ways to calculate told as rational numbers. Condition: the digits' lengths stay below 2 to the power of 26. -/
namespace Go.Proofs.YtaneocedklnajaaGreat
open Go.RowKit
set_option linter.unusedVariables false

/-- As RetR, with three older blocks kept. -/
def RetK (w : World) (r : Rat) (b0 b1 b : Nat) (e : Ending) (w' : World) : Prop := ∃ sg a1 c1 l1 a2 c2 l2, e = .returned (.agg #[.bool sg, .slice a1 l1 c1, .slice a2 l2 c2]) ∧ Hid (RawV w' a1 a2 l1 l2 r.num.natAbs r.den ∧ Below w.heap.size w w' ∧ sg = decide (r.num < 0)) ∧
      (∀ o, w'.cell? ⟨b0, o, none⟩ = w.cell? ⟨b0, o, none⟩) ∧ (∀ o, w'.cell? ⟨b1, o, none⟩ = w.cell? ⟨b1, o, none⟩) ∧ (∀ o, w'.cell? ⟨b, o, none⟩ = w.cell? ⟨b, o, none⟩) ∧ (∀ o, w'.frozen? ⟨b, o, none⟩ = w.frozen? ⟨b, o, none⟩) ∧ b0 < w'.heap.size ∧ b1 < w'.heap.size ∧ b < w'.heap.size
theorem retK_of {P : Program} {f : Nat} {args : Array Value} {w : World} {r : Rat} {b0 b1 b : Nat} (h : Calls P f args w (RetR w r)) (q0 : b0 < w.heap.size) (q1 : b1 < w.heap.size) (q2 : b < w.heap.size) : Calls P f args w (RetK w r b0 b1 b) := by
  refine h.mono ?_
  rintro e w' ⟨sg, a1, c1, l1, a2, c2, l2, rfl, hv, hb, hs⟩
  exact ⟨sg, a1, c1, l1, a2, c2, l2, rfl, Lib.hid ⟨hv, hb, hs⟩, fun o => hb.cell (p := ⟨b0, o, none⟩) q0, fun o => hb.cell (p := ⟨b1, o, none⟩) q1, fun o => hb.cell (p := ⟨b, o, none⟩) q2, fun o => hb.frozen (p := ⟨b, o, none⟩) q2, Nat.lt_of_lt_of_le q0 hb.size, Nat.lt_of_lt_of_le q1 hb.size, Nat.lt_of_lt_of_le q2 hb.size⟩
theorem opposite_kept (s : Bool) (a1 a2 : Option Addr) (l1 l2 c1 c2 b0 b1 b : Nat) (w : World) (q0 : b0 < w.heap.size) (q1 : b1 < w.heap.size) (q2 : b < w.heap.size) : Calls Tryz.prog 93 #[.agg #[.bool s, .slice a1 l1 c1, .slice a2 l2 c2]] w fun e w' => ∃ t, t = (!s && decide (0 < l1)) ∧ e = .returned (.agg #[.bool t, .slice a1 l1 c1, .slice a2 l2 c2]) ∧ Hid (Below w.heap.size w w') ∧
      (∀ o, w'.cell? ⟨b0, o, none⟩ = w.cell? ⟨b0, o, none⟩) ∧ (∀ o, w'.cell? ⟨b1, o, none⟩ = w.cell? ⟨b1, o, none⟩) ∧ (∀ o, w'.cell? ⟨b, o, none⟩ = w.cell? ⟨b, o, none⟩) ∧ (∀ o, w'.frozen? ⟨b, o, none⟩ = w.frozen? ⟨b, o, none⟩) ∧ b0 < w'.heap.size ∧ b1 < w'.heap.size ∧ b < w'.heap.size := by
  refine (opposite_any s a1 a2 l1 l2 c1 c2 w).mono ?_
  rintro e w' ⟨rfl, hb⟩
  exact ⟨_, rfl, rfl, Lib.hid hb, fun o => hb.cell (p := ⟨b0, o, none⟩) q0, fun o => hb.cell (p := ⟨b1, o, none⟩) q1, fun o => hb.cell (p := ⟨b, o, none⟩) q2, fun o => hb.frozen (p := ⟨b, o, none⟩) q2, Nat.lt_of_lt_of_le q0 hb.size, Nat.lt_of_lt_of_le q1 hb.size, Nat.lt_of_lt_of_le q2 hb.size⟩
theorem opp_sgn (s : Bool) (n l d : Nat) (h : (digs n).length = l) : sgn (!s && decide (0 < l)) (n * d) = - sgn s (n * d) := by
  subst h
  cases s with
  | true => simp [sgn]
  | false =>
    by_cases hn : n = 0
    · subst hn; simp [sgn]
    · have := digs_len_pos (Nat.pos_of_ne_zero hn)
      simp [sgn, this]
set_option maxRecDepth 20000 in
set_option maxHeartbeats 3200000 in
theorem minusR_raw (s1 s2 : Bool) (a1 a2 b1 b2 : Option Addr) (c1 c2 k1 k2 l1 l2 m1 m2 n1 d1 n2 d2 : Nat) (w : World) (h1 : RawV w a1 a2 l1 l2 n1 d1) (h2 : RawV w b1 b2 m1 m2 n2 d2) (q1 : l1 < 67108864) (q2 : l2 < 67108864) (q3 : m1 < 67108864) (q4 : m2 < 67108864) (hd1 : 0 < d1) (hd2 : 0 < d2) :
    Calls Tryz.prog 53 #[.agg #[.bool s1, .slice a1 l1 c1, .slice a2 l2 c2], .agg #[.bool s2, .slice b1 m1 k1, .slice b2 m2 k2]] w (RetR w (mkRat (sgn s1 (n1 * d2) - sgn s2 (n2 * d1)) (d1 * d2))) := by
  have HA : Below w.heap.size w (((w.alloc (.cells #[.bool s1, .slice a1 l1 c1, .slice a2 l2 c2] 66)).alloc (.cells #[.bool s2, .slice b1 m1 k1, .slice b2 m2 k2] 66)).alloc (.cells #[.bool false, .slice none 0 0, .slice none 0 0] 66)).drew := ((((Below.refl _ w).alloc (Nat.le_refl _) _).alloc (by simp) _).alloc (by simp only [alloc_size]; omega) _).drew
  have hop := opp_sgn s2 n2 m1 d1 h2.e1
  obtain ⟨R, hR⟩ : ∃ R, mkRat (sgn s1 (n1 * d2) - sgn s2 (n2 * d1)) (d1 * d2) = R := ⟨_, rfl⟩
  rw [hR]
  have HP := Lib.hid (fun (w : World) (h1 : RawV w a1 a2 l1 l2 n1 d1) (h2 : RawV w b1 b2 m1 m2 n2 d2) => by
    have := plusR_raw s1 (!s2 && decide (0 < m1)) a1 a2 b1 b2 c1 c2 k1 k2 l1 l2 m1 m2 n1 d1 n2 d2 w h1 h2 q1 q2 q3 q4 hd1 hd2
    rw [hop, ← Int.sub_eq_add_neg, hR] at this
    exact this)
  have H := Lib.hid (And.intro h1 (And.intro h2 HA))
  clear h1 h2 HA hd1 hd2 hop hR q1 q2 q3 q4
  obtain ⟨t, ht⟩ : ∃ t, (!s2 && decide (0 < m1)) = t := ⟨_, rfl⟩
  rw [ht] at HP
  have HT := Lib.hid ht
  clear ht
  go_enter Tryz.func53, Tryz.ntmps53
  go_wp2_with fail
  obtain ⟨t0, t1, t2⟩ := three_boxes w (.cells #[.bool s1, .slice a1 l1 c1, .slice a2 l2 c2] 66) (.cells #[.bool s2, .slice b1 m1 k1, .slice b2 m2 k2] 66) (.cells #[.bool false, .slice none 0 0, .slice none 0 0] 66)
  obtain ⟨⟨z0, z1, z2⟩, _, _, _⟩ := tri_cells t0
  obtain ⟨⟨z3, z4, z5⟩, _, _, _⟩ := tri_cells t1
  obtain ⟨⟨z6, z7, z8⟩, z9, z10, z11⟩ := tri_cells t2
  obtain ⟨wS, hwS⟩ : ∃ w', (((w.alloc (.cells #[.bool s1, .slice a1 l1 c1, .slice a2 l2 c2] 66)).alloc (.cells #[.bool s2, .slice b1 m1 k1, .slice b2 m2 k2] 66)).alloc (.cells #[.bool false, .slice none 0 0, .slice none 0 0] 66)) = w' := ⟨_, rfl⟩
  have zs : wS.heap.size = w.heap.size + 1 + 1 + 1 := by rw [← hwS]; simp only [alloc_size]
  rw [hwS] at z0 z1 z2 z3 z4 z5 z6 z7 z8 z9 z10 z11 H ⊢
  clear hwS t0 t1 t2
  have hne1 : w.heap.size + 1 + 1 ≠ w.heap.size := by omega
  have hne2 : w.heap.size ≠ w.heap.size + 1 + 1 := by omega
  go_region_held3 (fun w' => w'.cell? ⟨w.heap.size, 0, none⟩ = some (.bool s1) ∧ w'.cell? ⟨w.heap.size, 1, none⟩ = some (.slice a1 l1 c1) ∧ w'.cell? ⟨w.heap.size, 2, none⟩ = some (.slice a2 l2 c2) ∧
      w'.cell? ⟨w.heap.size + 1, 0, none⟩ = some (.bool s2) ∧ w'.cell? ⟨w.heap.size + 1, 1, none⟩ = some (.slice b1 m1 k1) ∧ w'.cell? ⟨w.heap.size + 1, 2, none⟩ = some (.slice b2 m2 k2) ∧
      w'.cell? ⟨w.heap.size + 1 + 1, 0, none⟩ = some (oldVal w' ⟨w.heap.size + 1 + 1, 0, none⟩) ∧ w'.cell? ⟨w.heap.size + 1 + 1, 1, none⟩ = some (oldVal w' ⟨w.heap.size + 1 + 1, 1, none⟩) ∧ w'.cell? ⟨w.heap.size + 1 + 1, 2, none⟩ = some (oldVal w' ⟨w.heap.size + 1 + 1, 2, none⟩) ∧
      w'.frozen? ⟨w.heap.size + 1 + 1, 0, none⟩ = false ∧ w'.frozen? ⟨w.heap.size + 1 + 1, 1, none⟩ = false ∧ w'.frozen? ⟨w.heap.size + 1 + 1, 2, none⟩ = false ∧ w.heap.size < w'.heap.size ∧ w.heap.size + 1 < w'.heap.size ∧ w.heap.size + 1 + 1 < w'.heap.size)
    ((repeat' refine And.intro ?_ ?_) <;> first | (go_keep; done) | (refine oldVal_of ?_; (repeat refine some_set ?_); go_keep; done) | (go_keep; omega))
    (first
      | (go_at_call 93; refine (opposite_kept s2 b1 b2 m1 m2 k1 k2 w.heap.size (w.heap.size + 1) (w.heap.size + 1 + 1) _ ?_ ?_ ?_).mono ?_; (first | omega | (simp [*]; done) | (simp [*]; omega)); (first | omega | (simp [*]; done) | (simp [*]; omega)); (first | omega | (simp [*]; done) | (simp [*]; omega)); rintro e w5 ⟨tq, htq, rfl, hX1, p0, p1, p2, p3, p4, p5, p6⟩; rw [HT.out] at htq; subst htq)
      | (go_at_call 33; refine (retK_of (b0 := w.heap.size) (b1 := w.heap.size + 1) (b := w.heap.size + 1 + 1) (HP.out _ (H.out.1.below (bthen H.out.2.2 hX1.out)) (H.out.2.1.below (bthen H.out.2.2 hX1.out))) ?_ ?_ ?_).mono ?_; (first | omega | (simp [*]; done) | (simp [*]; omega)); (first | omega | (simp [*]; done) | (simp [*]; omega)); (first | omega | (simp [*]; done) | (simp [*]; omega)); rintro e w7 ⟨sg, y1, u1, v1, y2, u2, v2, rfl, hY, s0, s1', s2', s3, s4, s5, s6⟩))
  go_wp2_with fail
  rename_i hHeld
  clear hHeld
  obtain ⟨hv, hbl, hsg⟩ := hY.out
  have hb : Below w.heap.size w w7 := bthen (bthen H.out.2.2 hX1.out) hbl
  have g0 : w7.cell? ⟨w.heap.size + 1 + 1, 0, none⟩ = some (.bool false) := by rw [s2' 0, p2 0]; exact z6
  have g1' : w7.cell? ⟨w.heap.size + 1 + 1, 1, none⟩ = some (.slice none 0 0) := by rw [s2' 1, p2 1]; exact z7
  have g2' : w7.cell? ⟨w.heap.size + 1 + 1, 2, none⟩ = some (.slice none 0 0) := by rw [s2' 2, p2 2]; exact z8
  have hI : Ints w7 (set3 w7 (w.heap.size + 1 + 1) (.bool sg) (.slice y1 v1 u1) (.slice y2 v2 u2)) := ints_set3 _ _ _ (by rw [g0]; simp) (by rw [g1']; simp) (by rw [g2']; simp)
  refine bodyPost_ret (v := .agg #[.bool sg, .slice y1 v1 u1, .slice y2 v2 u2]) (by simp [results, Tryz.results53, go_sem, *]) rfl ⟨sg, y1, u1, v1, y2, u2, v2, rfl, hv.ints hI, ?_, hsg⟩
  exact below_set3 hb (by omega) _ _ _
theorem sgn_mul (p : Int) (e : Nat) : sgn (decide (p < 0)) (p.natAbs * e) = p * (e : Int) := by
  have h := sgn_self p
  unfold sgn at h ⊢
  split at h
  · rename_i hp; rw [if_pos hp, Int.natCast_mul, ← Int.neg_mul, h]
  · rename_i hp; rw [if_neg hp, Int.natCast_mul, h]
theorem rat_plus (a b : Rat) : mkRat (sgn (decide (a.num < 0)) (a.num.natAbs * b.den) + sgn (decide (b.num < 0)) (b.num.natAbs * a.den)) (a.den * b.den) = a + b := by
  rw [sgn_mul, sgn_mul, ← rat_add]
theorem rat_minus (a b : Rat) : mkRat (sgn (decide (a.num < 0)) (a.num.natAbs * b.den) - sgn (decide (b.num < 0)) (b.num.natAbs * a.den)) (a.den * b.den) = a - b := by
  rw [sgn_mul, sgn_mul, Rat.sub_eq_add_neg, rat_add, Rat.neg_num, Rat.neg_den, Int.neg_mul, ← Int.sub_eq_add_neg]
theorem rat_times (a b : Rat) : mkRat (sgn (decide (a.num < 0) != decide (b.num < 0)) (a.num.natAbs * b.num.natAbs)) (a.den * b.den) = a * b := by
  rw [← mul_sgn, ← rat_mul]
end Go.Proofs.YtaneocedklnajaaGreat

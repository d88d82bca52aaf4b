import Derived.Test.YtaneocedklnajaaGreatWideX
import Derived.Test.YtaneocedklnajaaGreatPairC
/- The program's sum of two valid fractions, given that its test of fractions says yes (hypothesis hare). -/
namespace Go.Proofs.YtaneocedklnajaaGreat
open Go.RowKit
set_option linter.unusedVariables false

theorem ratioOf_sg (p : Int) (D : Nat) (w : World) (h1 : p.natAbs < 9223372036854775808) (h2 : D < 9223372036854775808) (hD : 0 < D) (hg : Nat.gcd p.natAbs D = 1) : Calls Tryz.prog 34 #[.agg #[.int .i64 p, .int .i64 (D : Nat)]] w (RetR w (mkRat p D)) := by
  obtain ⟨e1, e2⟩ := rat_of (p := p) (q := D) (Nat.ne_of_gt hD) hg
  exact (ratioOf_any p D w (by omega) (by omega) h2).mono fun e w' h => retR_raw (by rw [e1]) e2 (by rw [e1]) h
theorem fraction_sg (r : Rat) (a1 a2 : Option Addr) (c1 c2 l1 l2 : Nat) (w : World) (h : RawV w a1 a2 l1 l2 r.num.natAbs r.den) (hb1 : r.num.natAbs < 2 ^ 256) (hb2 : r.den < 2 ^ 256) :
    Calls Tryz.prog 37 #[.agg #[.bool (decide (r.num < 0)), .slice a1 l1 c1, .slice a2 l2 c2]] w fun e w' => e = .returned (fracV r) ∧ Below w.heap.size w w' := by
  obtain ⟨rfl, rfl, h1, h2⟩ := h
  exact fraction_any r a1 a2 c1 c2 w h1 h2 (by have := dlen8 hb1; omega) (by have := dlen8 hb2; omega)
theorem sum_small (a b : Rat) (h1 : a.num.natAbs ≤ 1000000000000000000) (h2 : a.den ≤ 1000000000000000000) (h3 : b.num.natAbs ≤ 1000000000000000000) (h4 : b.den ≤ 1000000000000000000) : (a + b).num.natAbs < 2 ^ 256 ∧ (a + b).den < 2 ^ 256 := by
  have hne : a.den * b.den ≠ 0 := Nat.ne_of_gt (Nat.mul_pos (Rat.den_pos _) (Rat.den_pos _))
  rw [rat_add, mk_abs hne, mk_den hne]
  have e1 : (a.num * (b.den : Int)).natAbs = a.num.natAbs * b.den := by rw [Int.natAbs_mul, Int.natAbs_natCast]
  have e2 : (b.num * (a.den : Int)).natAbs = b.num.natAbs * a.den := by rw [Int.natAbs_mul, Int.natAbs_natCast]
  have k0 := Int.natAbs_add_le (a.num * (b.den : Int)) (b.num * (a.den : Int))
  have k1 := Nat.mul_le_mul h1 h4
  have k2 := Nat.mul_le_mul h3 h2
  have k3 := Nat.mul_le_mul h2 h4
  rw [e1, e2] at k0
  exact ⟨Nat.lt_of_le_of_lt (Nat.div_le_self _ _) (by omega), Nat.lt_of_le_of_lt (Nat.div_le_self _ _) (by omega)⟩
set_option maxRecDepth 20000 in
set_option maxHeartbeats 3200000 in
theorem combinedPlus_of (p q : Int) (b c : Nat) (w : World) (hp : p.natAbs ≤ 1000000000000000000) (hq : q.natAbs ≤ 1000000000000000000) (hb : 0 < b) (hb2 : b ≤ 1000000000000000000) (hc : 0 < c) (hc2 : c ≤ 1000000000000000000) (hg1 : p.natAbs.gcd b = 1) (hg2 : q.natAbs.gcd c = 1)
    (hare : ∀ (g cap : Nat) (w : World), w.cell? ⟨g, 0, none⟩ = some (.int .i64 p) → w.cell? ⟨g, 1, none⟩ = some (.int .i64 (b : Nat)) → w.cell? ⟨g, 2, none⟩ = some (.int .i64 q) → w.cell? ⟨g, 3, none⟩ = some (.int .i64 (c : Nat)) → Calls Tryz.prog 58 #[.slice (some ⟨g, 0, none⟩) 2 cap] w fun e w' => e = .returned (.bool true) ∧ Below w.heap.size w w') :
    Calls Tryz.prog 130 #[.agg #[.int .i64 p, .int .i64 (b : Nat)], .agg #[.int .i64 q, .int .i64 (c : Nat)], .func (.func 33) #[] #[]] w fun e w' => e = .returned (fracV (mkRat p b + mkRat q c)) ∧ Below w.heap.size w w' := by
  have HAre := Lib.hid hare
  clear hare
  have HN := Lib.hid (And.intro hp (And.intro hq (And.intro hg1 hg2)))
  clear hp hq hg1 hg2
  obtain ⟨Rf, hRf⟩ : ∃ R, mkRat p b + mkRat q c = R := ⟨_, rfl⟩
  rw [hRf]
  have HRf := Lib.hid hRf
  clear hRf
  go_enter Tryz.func130, Tryz.ntmps130
  go_wp2_with fail
  obtain ⟨t0, t1, t2⟩ := three_boxes w (.cells #[.int .i64 p, .int .i64 (b : Nat)] 40) (.cells #[.int .i64 q, .int .i64 (c : Nat)] 40) (.cells #[.int .i64 0, .int .i64 0] 40)
  have HA0 : Below w.heap.size w (((w.alloc (.cells #[.int .i64 p, .int .i64 (b : Nat)] 40)).alloc (.cells #[.int .i64 q, .int .i64 (c : Nat)] 40)).alloc (.cells #[.int .i64 0, .int .i64 0] 40)) := (((Below.refl _ w).alloc (Nat.le_refl _) _).alloc (by simp) _).alloc (by simp only [alloc_size]; omega) _
  have hsz : (((w.alloc (.cells #[.int .i64 p, .int .i64 (b : Nat)] 40)).alloc (.cells #[.int .i64 q, .int .i64 (c : Nat)] 40)).alloc (.cells #[.int .i64 0, .int .i64 0] 40)).heap.size = w.heap.size + 1 + 1 + 1 := by simp only [alloc_size]
  obtain ⟨w1, hw1⟩ : ∃ w', (((w.alloc (.cells #[.int .i64 p, .int .i64 (b : Nat)] 40)).alloc (.cells #[.int .i64 q, .int .i64 (c : Nat)] 40)).alloc (.cells #[.int .i64 0, .int .i64 0] 40)) = w' := ⟨_, rfl⟩
  rw [hw1] at t0 t1 t2 HA0 hsz ⊢
  rw [← hsz]
  clear hw1
  have hbw : Below w1.heap.size w1 (w1.alloc (.cells #[.int .i64 p, .int .i64 (b : Nat), .int .i64 q, .int .i64 (c : Nat)] 40)) := (Below.refl _ w1).alloc (Nat.le_refl _) _
  have hnew := heap_at_new w1 (.cells #[.int .i64 p, .int .i64 (b : Nat), .int .i64 q, .int .i64 (c : Nat)] 40)
  refine (HAre.out w1.heap.size 2 _ (by simp only [World.cell?, hnew]; rfl) (by simp only [World.cell?, hnew]; rfl) (by simp only [World.cell?, hnew]; rfl) (by simp only [World.cell?, hnew]; rfl)).mono ?_
  rintro e w2 ⟨rfl, hb2'⟩
  have hb12 := bthen hbw hb2'
  have H2 := Lib.hid (And.intro ((C2.of_heap t0).all hb12) (And.intro ((C2.of_heap t1).all hb12) (And.intro ((C2.of_heap t2).all hb12) (bthen HA0 hb12))))
  clear t0 t1 t2 HA0 hbw hnew hb2' hb12
  obtain ⟨z0, z1, _, _, z4⟩ := H2.out.1
  obtain ⟨y0, y1, _, _, y4⟩ := H2.out.2.1
  obtain ⟨g0, g1, g2, g3, g4⟩ := H2.out.2.2.1
  go_upto_region 3 with fail
  have m1 := mk_small hb HN.out.1 hb2
  have m2 := mk_small hc HN.out.2.1 hc2
  have HB := Lib.hid (sum_small _ _ m1.1 m1.2 m2.1 m2.2)
  rw [HRf.out] at HB
  obtain ⟨p', q', b', hform⟩ : ∃ p q b, fracV Rf = .tuple #[.agg #[.int .i64 p, .int .i64 q], .bool b] := by unfold fracV; split <;> exact ⟨_, _, _, rfl⟩
  have HFo := Lib.hid hform
  clear hform
  have HP := Lib.hid (fun (w : World) (a1 a2 b1 b2 : Option Addr) (c1 c2 k1 k2 l1 l2 m1 m2 : Nat) (h1 : RawV w a1 a2 l1 l2 (mkRat p b).num.natAbs (mkRat p b).den) (h2 : RawV w b1 b2 m1 m2 (mkRat q c).num.natAbs (mkRat q c).den) => by
    have h := plusR_raw (decide ((mkRat p b).num < 0)) (decide ((mkRat q c).num < 0)) a1 a2 b1 b2 c1 c2 k1 k2 l1 l2 m1 m2 _ _ _ _ w h1 h2 (by rw [← h1.e1]; have := dlen8 (n := (mkRat p b).num.natAbs) (by omega); omega) (by rw [← h1.e2]; have := dlen8 (n := (mkRat p b).den) (by omega); omega) (by rw [← h2.e1]; have := dlen8 (n := (mkRat q c).num.natAbs) (by omega); omega) (by rw [← h2.e2]; have := dlen8 (n := (mkRat q c).den) (by omega); omega) (Rat.den_pos _) (Rat.den_pos _)
    rw [rat_plus, HRf.out] at h
    exact h)
  clear m1 m2
  have hne1 : w.heap.size + 1 + 1 ≠ w.heap.size := by omega
  have hne2 : w.heap.size ≠ w.heap.size + 1 + 1 := by omega
  go_region_held3 (fun w' => w'.cell? ⟨w.heap.size, 0, none⟩ = some (.int .i64 p) ∧ w'.cell? ⟨w.heap.size, 1, none⟩ = some (.int .i64 (b : Nat)) ∧ w'.cell? ⟨w.heap.size + 1, 0, none⟩ = some (.int .i64 q) ∧ w'.cell? ⟨w.heap.size + 1, 1, none⟩ = some (.int .i64 (c : Nat)) ∧
      w'.cell? ⟨w.heap.size + 1 + 1, 0, none⟩ = some (oldVal w' ⟨w.heap.size + 1 + 1, 0, none⟩) ∧ w'.cell? ⟨w.heap.size + 1 + 1, 1, none⟩ = some (oldVal w' ⟨w.heap.size + 1 + 1, 1, none⟩) ∧ w'.frozen? ⟨w.heap.size + 1 + 1, 0, none⟩ = false ∧ w'.frozen? ⟨w.heap.size + 1 + 1, 1, none⟩ = false ∧ w.heap.size < w'.heap.size ∧ w.heap.size + 1 < w'.heap.size ∧ w.heap.size + 1 + 1 < w'.heap.size)
    ((repeat' refine And.intro ?_ ?_) <;> first | (go_keep; done) | (refine oldVal_of ?_; (repeat refine some_set ?_); go_keep; done) | (go_keep; omega))
    (first
      | (go_at_call_of 34 (Value.agg #[.int .i64 p, .int .i64 (b : Nat)]); refine (retK_of (b0 := w.heap.size) (b1 := w.heap.size + 1) (b := w.heap.size + 1 + 1) (ratioOf_sg p b _ (by have := HN.out.1; omega) (by omega) hb HN.out.2.2.1) ?_ ?_ ?_).mono ?_; (first | omega | (simp [*]; done) | (simp [*]; omega)); (first | omega | (simp [*]; done) | (simp [*]; omega)); (first | omega | (simp [*]; done) | (simp [*]; omega)); rintro e w5 ⟨s1, x1, i1, j1, x2, i2, j2, rfl, hX1, p0, p1, p2, p3, p4, p5, p6⟩; have e1 := hX1.out.2.2; subst e1)
      | (go_at_call_of 34 (Value.agg #[.int .i64 q, .int .i64 (c : Nat)]); refine (retK_of (b0 := w.heap.size) (b1 := w.heap.size + 1) (b := w.heap.size + 1 + 1) (ratioOf_sg q c _ (by have := HN.out.2.1; omega) (by omega) hc HN.out.2.2.2) ?_ ?_ ?_).mono ?_; (first | omega | (simp [*]; done) | (simp [*]; omega)); (first | omega | (simp [*]; done) | (simp [*]; omega)); (first | omega | (simp [*]; done) | (simp [*]; omega)); rintro e w6 ⟨s2, x3, i3, j3, x4, i4, j4, rfl, hX2, q0, q1, q2, q3, q4, q5, q6⟩; have e2 := hX2.out.2.2; subst e2)
      | (go_at_call 33; refine (retK_of (b0 := w.heap.size) (b1 := w.heap.size + 1) (b := w.heap.size + 1 + 1) (HP.out _ _ _ _ _ _ _ _ _ _ _ _ _ (hX1.out.1.below hX2.out.2.1) hX2.out.1) ?_ ?_ ?_).mono ?_; (first | omega | (simp [*]; done) | (simp [*]; omega)); (first | omega | (simp [*]; done) | (simp [*]; omega)); (first | omega | (simp [*]; done) | (simp [*]; omega)); rintro e w7 ⟨s3, x5, i5, j5, x6, i6, j6, rfl, hX3, r0, r1, r2, r3, r4, r5, r6⟩; have e3 := hX3.out.2.2; subst e3)
      | (go_at_call 37; refine (kept3_of (b0 := w.heap.size) (b1 := w.heap.size + 1) (b2 := w.heap.size + 1 + 1) (fraction_sg Rf _ _ _ _ _ _ _ hX3.out.1 HB.out.1 HB.out.2) ?_ ?_ ?_).mono ?_; (first | omega | (simp [*]; done) | (simp [*]; omega)); (first | omega | (simp [*]; done) | (simp [*]; omega)); (first | omega | (simp [*]; done) | (simp [*]; omega)); rintro e w8 ⟨rfl, hX4, u0, u1, u2, u3, u4, u5, u6⟩; rw [HFo.out]))
  go_wp2_with fail
  rename_i hHeld
  clear hHeld
  refine bodyPost_ret (v := .tuple #[.agg #[.int .i64 p', .int .i64 q'], .bool b']) (by simp [results, Tryz.results130, go_sem, *]) rfl ⟨by rw [HFo.out], ?_⟩
  have hbl : Below w.heap.size w w8 := bthen H2.out.2.2.2 (bthen (bthen (bthen (bthen (Below.refl _ w2).drew hX1.out.2.1) hX2.out.2.1) hX3.out.2.1) hX4.out)
  exact (hbl.setCell (p := ⟨w.heap.size + 1 + 1, 0, none⟩) (by show w.heap.size ≤ w.heap.size + 1 + 1; omega) _).setCell (p := ⟨w.heap.size + 1 + 1, 1, none⟩) (by show w.heap.size ≤ w.heap.size + 1 + 1; omega) _
end Go.Proofs.YtaneocedklnajaaGreat

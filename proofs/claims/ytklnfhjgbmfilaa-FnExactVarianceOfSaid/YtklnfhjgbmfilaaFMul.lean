import Derived.Test.YtklnfhjgbmfilaaWide
/- The reference's product of fractions. Condition: the fractions are valid ones. -/
namespace Go.Proofs.Ytklnfhjgbmfilaa
open Go.RowKit
set_option linter.unusedVariables false

/-- A box of two values. -/
structure C2 (w : World) (b : Nat) (x y : Value) : Prop where
  c0 : w.cell? ⟨b, 0, none⟩ = some x
  c1 : w.cell? ⟨b, 1, none⟩ = some y
  f0 : w.frozen? ⟨b, 0, none⟩ = false
  f1 : w.frozen? ⟨b, 1, none⟩ = false
  lt : b < w.heap.size
theorem C2.of_heap {w : World} {b t : Nat} {x y : Value} (h : w.heap[b]? = some (.cells #[x, y] t (0, 0))) : C2 w b x y :=
  ⟨by simp [World.cell?, h], by simp [World.cell?, h], by simp [World.frozen?, h], by simp [World.frozen?, h], lt_of_heap h⟩
theorem C2.new (w : World) (t : Nat) (x y : Value) : C2 (w.alloc (.cells #[x, y] t (0, 0))) w.heap.size x y := C2.of_heap (heap_at_new w _)
theorem C2.below {w w' : World} {b B : Nat} {x y : Value} (h : C2 w b x y) (hlt : b < B) (hb : Below B w w') : C2 w' b x y :=
  ⟨(hb.cell (p := ⟨b, 0, none⟩) hlt).trans h.c0, (hb.cell (p := ⟨b, 1, none⟩) hlt).trans h.c1, (hb.frozen (p := ⟨b, 0, none⟩) hlt).trans h.f0, (hb.frozen (p := ⟨b, 1, none⟩) hlt).trans h.f1, Nat.lt_of_lt_of_le h.lt hb.size⟩
theorem C2.all {w w' : World} {b : Nat} {x y : Value} (h : C2 w b x y) (hb : Below w.heap.size w w') : C2 w' b x y := h.below h.lt hb
theorem kept3_of {P : Program} {f : Nat} {args : Array Value} {w : World} {V : Value} {b0 b1 b2 : Nat} (h : Calls P f args w fun e w' => e = .returned V ∧ Below w.heap.size w w') (q0 : b0 < w.heap.size) (q1 : b1 < w.heap.size) (q2 : b2 < w.heap.size) :
    Calls P f args w fun e w' => e = .returned V ∧ Hid (Below w.heap.size w w') ∧ (∀ o, w'.cell? ⟨b0, o, none⟩ = w.cell? ⟨b0, o, none⟩) ∧ (∀ o, w'.cell? ⟨b1, o, none⟩ = w.cell? ⟨b1, o, none⟩) ∧ (∀ o, w'.cell? ⟨b2, o, none⟩ = w.cell? ⟨b2, o, none⟩) ∧ (∀ o, w'.frozen? ⟨b2, o, none⟩ = w.frozen? ⟨b2, o, none⟩) ∧ b0 < w'.heap.size ∧ b1 < w'.heap.size ∧ b2 < w'.heap.size := by
  refine h.mono ?_
  rintro e w' ⟨rfl, hb⟩
  exact ⟨rfl, Lib.hid hb, fun o => hb.cell (p := ⟨b0, o, none⟩) q0, fun o => hb.cell (p := ⟨b1, o, none⟩) q1, fun o => hb.cell (p := ⟨b2, o, none⟩) q2, fun o => hb.frozen (p := ⟨b2, o, none⟩) q2, Nat.lt_of_lt_of_le q0 hb.size, Nat.lt_of_lt_of_le q1 hb.size, Nat.lt_of_lt_of_le q2 hb.size⟩
theorem fit_mul (a b : Rat) (h1 : (a * b).num = a.num * b.num) (h2 : (a * b).den = a.den * b.den) : fitR (a * b) = (decide (a.num.natAbs * b.num.natAbs ≤ 1000000000000000000) && decide (a.den * b.den ≤ 1000000000000000000)) := by
  unfold fitR
  rw [h1, h2, Int.natAbs_mul]
theorem mk_small {p : Int} {q : Nat} (hq : 0 < q) (h1 : p.natAbs ≤ 1000000000000000000) (h2 : q ≤ 1000000000000000000) : (mkRat p q).num.natAbs ≤ 1000000000000000000 ∧ (mkRat p q).den ≤ 1000000000000000000 := by
  rw [mk_abs (Nat.ne_of_gt hq), mk_den (Nat.ne_of_gt hq)]
  exact ⟨Nat.le_trans (Nat.div_le_self _ _) h1, Nat.le_trans (Nat.div_le_self _ _) h2⟩
theorem wide_pair (x y : Nat) (hx : x < 9223372036854775808) (hy : y < 9223372036854775808) : ∃ (hi lo n : Int) (ok : Bool), (∀ w, Calls Try.prog 88 #[.int .i64 (x : Nat), .int .i64 (y : Nat)] w fun e w' => e = .returned (.agg #[.int .u64 hi, .int .u64 lo]) ∧ Below w.heap.size w w') ∧
    (∀ w, Calls Try.prog 93 #[.agg #[.int .u64 hi, .int .u64 lo]] w fun e w' => e = .returned (.tuple #[.int .i64 n, .bool ok]) ∧ Below w.heap.size w w') ∧ ok = decide (x * y ≤ 1000000000000000000) ∧ (ok = true → n = ((x * y : Nat) : Int)) := by
  by_cases h : x * y ≤ 1000000000000000000
  · refine ⟨_, _, ((x * y : Nat) : Int), true, fun w => l01Times_any x y w hx hy, fun w => ?_, by simp [h], fun _ => rfl⟩
    have := l01Small_any (x * y) w
    rw [if_pos h] at this
    exact this
  · refine ⟨_, _, 0, false, fun w => l01Times_any x y w hx hy, fun w => ?_, by simp [h], fun e => by cases e⟩
    have := l01Small_any (x * y) w
    rw [if_neg h] at this
    exact this
set_option maxRecDepth 20000 in
set_option maxHeartbeats 3200000 in
theorem l01FMul_any (p q : Int) (b c : Nat) (w : World) (hp : p.natAbs ≤ 1000000000000000000) (hq : q.natAbs ≤ 1000000000000000000) (hb : 0 < b) (hb2 : b ≤ 1000000000000000000) (hc : 0 < c) (hc2 : c ≤ 1000000000000000000) (hg1 : p.natAbs.gcd b = 1) (hg2 : q.natAbs.gcd c = 1) :
    Calls Try.prog 112 #[.agg #[.int .i64 p, .int .i64 (b : Nat)], .agg #[.int .i64 q, .int .i64 (c : Nat)]] w fun e w' => e = .returned (fracV (mkRat p b * mkRat q c)) ∧ Below w.heap.size w w' := by
  obtain ⟨r1, r2⟩ := fmul hb hc hg1 hg2
  have e : mkRat p b * mkRat q c = mkRat p c * mkRat q b := by rw [Rat.mkRat_mul_mkRat, Rat.mkRat_mul_mkRat, Nat.mul_comm b c]
  rw [e] at r1 r2 ⊢
  have hfit := fit_mul _ _ r1 r2
  obtain ⟨s1, s2⟩ := mk_small hc hp hc2
  obtain ⟨s3, s4⟩ := mk_small hb hq hb2
  have HQ1 := Lib.hid (fun (w : World) => l01FMake_any p c w (by omega) (by omega) (by omega) hc)
  have HQ2 := Lib.hid (fun (w : World) => l01FMake_any q b w (by omega) (by omega) (by omega) hb)
  have hv : fracV (mkRat p c * mkRat q b) = if (mkRat p c).num.natAbs * (mkRat q b).num.natAbs ≤ 1000000000000000000 then (if (mkRat p c).den * (mkRat q b).den ≤ 1000000000000000000 then .tuple #[.agg #[.int .i64 ((mkRat p c).num * (mkRat q b).num), .int .i64 (((mkRat p c).den * (mkRat q b).den : Nat) : Int)], .bool true] else .tuple #[.agg #[.int .i64 0, .int .i64 0], .bool false]) else .tuple #[.agg #[.int .i64 0, .int .i64 0], .bool false] := by
    unfold fracV
    rw [hfit, r1, r2]
    by_cases k1 : (mkRat p c).num.natAbs * (mkRat q b).num.natAbs ≤ 1000000000000000000 <;> by_cases k2 : (mkRat p c).den * (mkRat q b).den ≤ 1000000000000000000 <;> simp [k1, k2]
  rw [hv]
  clear hv hfit r1 r2 e hg1 hg2
  obtain ⟨u, hu⟩ : ∃ u, (mkRat p c).num = u := ⟨_, rfl⟩
  obtain ⟨v, hv⟩ : ∃ v, (mkRat q b).num = v := ⟨_, rfl⟩
  obtain ⟨d1, hd1⟩ : ∃ d, (mkRat p c).den = d := ⟨_, rfl⟩
  obtain ⟨d2, hd2⟩ : ∃ d, (mkRat q b).den = d := ⟨_, rfl⟩
  rw [hu, hd1] at HQ1
  rw [hv, hd2] at HQ2
  rw [hu, hv, hd1, hd2]
  rw [hu] at s1
  rw [hv] at s3
  rw [hd1] at s2
  rw [hd2] at s4
  clear hu hv hd1 hd2
  have hwu : IntKind.i64.wrap (-u) = -u := IntWalk.i64_in _ (by omega)
  have hwv : IntKind.i64.wrap (-v) = -v := IntWalk.i64_in _ (by omega)
  obtain ⟨U, hU⟩ : ∃ U, u.natAbs = U := ⟨_, rfl⟩
  obtain ⟨V, hV⟩ : ∃ V, v.natAbs = V := ⟨_, rfl⟩
  have HM1 := Lib.hid (fun (w : World) => l00Max_abs u w (by omega) (by omega))
  have HM2 := Lib.hid (fun (w : World) => l00Max_abs v w (by omega) (by omega))
  have HUV := Lib.hid (mul_sgn (p := u) (q := v))
  rw [hU] at HM1
  rw [hV] at HM2
  rw [hU, hV] at HUV ⊢
  obtain ⟨hi1, lo1, n1, ok1, x1, x2, x3, x4⟩ := wide_pair U V (by omega) (by omega)
  obtain ⟨hi2, lo2, n2, ok2, x5, x6, x7, x8⟩ := wide_pair d1 d2 (by omega) (by omega)
  have HX := Lib.hid (And.intro x1 (And.intro x2 (And.intro x5 x6)))
  have HK := Lib.hid (And.intro x3 (And.intro x4 (And.intro x7 x8)))
  clear x1 x2 x3 x4 x5 x6 x7 x8 hU hV
  obtain ⟨Vf, hVf⟩ : ∃ Vf, (if U * V ≤ 1000000000000000000 then (if d1 * d2 ≤ 1000000000000000000 then Value.tuple #[.agg #[.int .i64 (u * v), .int .i64 ((d1 * d2 : Nat) : Int)], .bool true] else .tuple #[.agg #[.int .i64 0, .int .i64 0], .bool false]) else .tuple #[.agg #[.int .i64 0, .int .i64 0], .bool false]) = Vf := ⟨_, rfl⟩
  rw [hVf]
  have HVf := Lib.hid hVf
  clear hVf
  go_enter Try.func112, Try.ntmps112
  go_wp2_with fail
  obtain ⟨t0, t1, t2⟩ := three_boxes w (.cells #[.int .i64 p, .int .i64 (b : Nat)] 33) (.cells #[.int .i64 q, .int .i64 (c : Nat)] 33) (.cells #[.int .i64 0, .int .i64 0] 33)
  have HA0 : Below w.heap.size w (((w.alloc (.cells #[.int .i64 p, .int .i64 (b : Nat)] 33)).alloc (.cells #[.int .i64 q, .int .i64 (c : Nat)] 33)).alloc (.cells #[.int .i64 0, .int .i64 0] 33)) := (((Below.refl _ w).alloc (Nat.le_refl _) _).alloc (by simp) _).alloc (by simp only [alloc_size]; omega) _
  obtain ⟨wS, hwS⟩ : ∃ w', (((w.alloc (.cells #[.int .i64 p, .int .i64 (b : Nat)] 33)).alloc (.cells #[.int .i64 q, .int .i64 (c : Nat)] 33)).alloc (.cells #[.int .i64 0, .int .i64 0] 33)) = w' := ⟨_, rfl⟩
  rw [hwS] at t0 t1 t2 HA0 ⊢
  clear hwS
  refine (HQ1.out _).mono ?_
  rintro e w1 ⟨rfl, hb1⟩
  have H1 := Lib.hid (And.intro ((C2.of_heap t0).all hb1) (And.intro ((C2.of_heap t1).all hb1) (And.intro ((C2.of_heap t2).all hb1) (bthen HA0 hb1))))
  clear t0 t1 t2 HA0 hb1
  obtain ⟨y0, y1, _, _, _⟩ := H1.out.1
  obtain ⟨y2, y3, _, _, _⟩ := H1.out.2.1
  go_wp2_with fail
  have hb6 : Below w1.heap.size w1 (w1.alloc (.cells #[.int .i64 u, .int .i64 (d1 : Nat)] 33)) := (Below.refl _ w1).alloc (Nat.le_refl _) _
  have hn6 := C2.new w1 33 (.int .i64 u) (.int .i64 (d1 : Nat))
  obtain ⟨w2, hw2⟩ : ∃ w', w1.alloc (.cells #[.int .i64 u, .int .i64 (d1 : Nat)] 33) = w' := ⟨_, rfl⟩
  rw [hw2] at hb6 hn6 ⊢
  clear hw2 y0 y1 y2 y3
  refine (HQ2.out _).mono ?_
  rintro e w3 ⟨rfl, hb3⟩
  have H3 := Lib.hid (And.intro (hn6.all hb3) (And.intro (H1.out.2.2.1.all (bthen hb6 hb3)) (bthen H1.out.2.2.2 (bthen hb6 hb3))))
  have hlt61 : w1.heap.size < w3.heap.size := H3.out.1.lt
  have hlt5 : w.heap.size + 1 + 1 < w1.heap.size := H1.out.2.2.1.lt
  obtain ⟨b6, hb6e⟩ : ∃ b6, w1.heap.size = b6 := ⟨_, rfl⟩
  rw [hb6e] at H3 hlt61 hlt5 ⊢
  clear hb6e hb6 hn6 hb3 H1
  go_wp2_with fail
  have hb7 : Below w3.heap.size w3 (w3.alloc (.cells #[.int .i64 v, .int .i64 (d2 : Nat)] 33)) := (Below.refl _ w3).alloc (Nat.le_refl _) _
  have hn7 := C2.new w3 33 (.int .i64 v) (.int .i64 (d2 : Nat))
  obtain ⟨w4, hw4⟩ : ∃ w', w3.alloc (.cells #[.int .i64 v, .int .i64 (d2 : Nat)] 33) = w' := ⟨_, rfl⟩
  have H4 := Lib.hid (And.intro (H3.out.1.all hb7) (And.intro hn7 (And.intro (H3.out.2.1.all hb7) (bthen H3.out.2.2 hb7))))
  rw [hw4] at H4 ⊢
  obtain ⟨b7, hb7e⟩ : ∃ b7, w3.heap.size = b7 := ⟨_, rfl⟩
  rw [hb7e] at H4 hlt61 ⊢
  clear hw4 hb7 hn7 H3 hb7e
  obtain ⟨k0, k1, _, _, k4⟩ := H4.out.1
  obtain ⟨k5, k6, _, _, k9⟩ := H4.out.2.1
  clear HQ1 HQ2
  go_region_held3 (fun w' => w'.cell? ⟨b6, 0, none⟩ = some (.int .i64 u) ∧ w'.cell? ⟨b7, 0, none⟩ = some (.int .i64 v) ∧ b6 < w'.heap.size ∧ b7 < w'.heap.size)
    ((repeat' refine And.intro ?_ ?_) <;> first | (go_keep; done) | (go_keep; omega))
    (first
      | (go_at_call_of 87 (Value.int .i64 u); refine (HM1.out _).mono ?_; rintro e w5 ⟨rfl, rfl⟩)
      | (go_at_call_of 87 (Value.int .i64 v); refine (HM2.out _).mono ?_; rintro e w5 ⟨rfl, rfl⟩)
      | (go_at_call 88; refine (kept3_of (b0 := b6) (b1 := b7) (b2 := b7) (HX.out.1 _) ?_ ?_ ?_).mono ?_; (first | omega | (simp [*]; done) | (simp [*]; omega)); (first | omega | (simp [*]; done) | (simp [*]; omega)); (first | omega | (simp [*]; done) | (simp [*]; omega)); rintro e w6 ⟨rfl, hY1, p0, p1, p2, p3, p4, p5, p6⟩)
      | (go_at_call 93; refine (kept3_of (b0 := b6) (b1 := b7) (b2 := b7) (HX.out.2.1 _) ?_ ?_ ?_).mono ?_; (first | omega | (simp [*]; done) | (simp [*]; omega)); (first | omega | (simp [*]; done) | (simp [*]; omega)); (first | omega | (simp [*]; done) | (simp [*]; omega)); rintro e w7 ⟨rfl, hY2, s0, s1, s2, s3, s4, s5, s6⟩))
  go_wp2_with fail
  have hb7' : Below w4.heap.size w4 w7 := bthen (bthen (Below.refl _ w4).drew hY1.out) hY2.out
  have H7 := Lib.hid (And.intro (H4.out.1.all hb7') (And.intro (H4.out.2.1.all hb7') (And.intro (H4.out.2.2.1.all hb7') (bthen H4.out.2.2.2 hb7'))))
  clear hb7' hY1 hY2 p0 p1 p2 p3 p4 p5 p6 s0 s1 s2 s3 s4 s5 s6 k0 k1 k4 k5 k6 k9 H4
  refine (HX.out.2.2.1 _).mono ?_
  rintro e w8 ⟨rfl, hb8⟩
  have HB8 := Lib.hid hb8
  clear hb8
  go_wp2_with fail
  refine (HX.out.2.2.2 _).mono ?_
  rintro e w9 ⟨rfl, hb9⟩
  have hb79 := bthen HB8.out hb9
  have H9 := Lib.hid (And.intro (H7.out.1.all hb79) (And.intro (H7.out.2.1.all hb79) (And.intro (H7.out.2.2.1.all hb79) (bthen H7.out.2.2.2 hb79))))
  clear H7 hb9 hb79 HB8
  obtain ⟨k0, k1, _, _, k4⟩ := H9.out.1
  obtain ⟨k5, k6, _, _, k9⟩ := H9.out.2.1
  obtain ⟨g0, g1, g2, g3, g4⟩ := H9.out.2.2.1
  have hlast : ∀ a0 a1, Below w.heap.size w ((w9.setCell ⟨w.heap.size + 1 + 1, 0, none⟩ a0).setCell ⟨w.heap.size + 1 + 1, 1, none⟩ a1) := fun a0 a1 => ((H9.out.2.2.2.setCell (p := ⟨w.heap.size + 1 + 1, 0, none⟩) (by show w.heap.size ≤ w.heap.size + 1 + 1; omega) _).setCell (p := ⟨w.heap.size + 1 + 1, 1, none⟩) (by show w.heap.size ≤ w.heap.size + 1 + 1; omega) _)
  have HL := Lib.hid hlast
  clear hlast
  cases ok1 with
  | false =>
    have hno : ¬ U * V ≤ 1000000000000000000 := by have := HK.out.1; simpa using this.symm
    go_wp2_with fail
    refine bodyPost_ret (v := .tuple #[.agg #[.int .i64 0, .int .i64 0], .bool false]) (by simp [results, Try.results112, go_sem, *]) rfl ⟨by rw [← HVf.out, if_neg hno], HL.out _ _⟩
  | true =>
    have hyes : U * V ≤ 1000000000000000000 := by have := HK.out.1; simpa using this.symm
    obtain rfl : n1 = ((U * V : Nat) : Int) := HK.out.2.1 rfl
    obtain ⟨P, hP⟩ : ∃ P, U * V = P := ⟨_, rfl⟩
    cases ok2 with
    | false =>
      have hno : ¬ d1 * d2 ≤ 1000000000000000000 := by have := HK.out.2.2.1; simpa using this.symm
      have HN := Lib.hid (And.intro hyes hno)
      clear hyes hno
      rw [hP]
      go_wp2_with fail
      refine bodyPost_ret (v := .tuple #[.agg #[.int .i64 0, .int .i64 0], .bool false]) (by simp [results, Try.results112, go_sem, *]) rfl ⟨by rw [← HVf.out, if_pos HN.out.1, if_neg HN.out.2], HL.out _ _⟩
    | true =>
      have hyes2 : d1 * d2 ≤ 1000000000000000000 := by have := HK.out.2.2.1; simpa using this.symm
      obtain rfl : n2 = ((d1 * d2 : Nat) : Int) := HK.out.2.2.2 rfl
      have HN := Lib.hid (And.intro hyes hyes2)
      have HE := Lib.hid hP
      have hPb : P ≤ 1000000000000000000 := by omega
      rw [hP] at HUV ⊢
      obtain ⟨D, hD⟩ : ∃ D, d1 * d2 = D := ⟨_, rfl⟩
      have HD := Lib.hid hD
      rw [hD]
      clear hyes hyes2 hP hD
      have hwP : IntKind.i64.wrap (-(P : Int)) = -(P : Int) := IntWalk.i64_in _ (by omega)
      by_cases hu0 : u < 0
      · by_cases hv0 : v < 0
        · have HV := Lib.hid (show u * v = (P : Int) by rw [HUV.out, decide_eq_true hu0, decide_eq_true hv0]; rfl)
          have hd1 := decide_eq_true hu0
          have hd2 := decide_eq_true hv0
          go_upto_if 61 with fail
          go_wp2_with fail
          refine bodyPost_ret (v := .tuple #[.agg #[.int .i64 (P : Int), .int .i64 (D : Int)], .bool true]) (by simp [results, Try.results112, go_sem, *]) rfl ⟨by rw [← HVf.out, if_pos HN.out.1, if_pos HN.out.2, HV.out, HD.out], HL.out _ _⟩
        · have HV := Lib.hid (show u * v = (-(P : Int)) by rw [HUV.out, decide_eq_true hu0, decide_eq_false hv0]; rfl)
          have hd1 := decide_eq_true hu0
          have hd2 := decide_eq_false hv0
          go_upto_if 61 with fail
          go_wp2_with fail
          refine bodyPost_ret (v := .tuple #[.agg #[.int .i64 (-(P : Int)), .int .i64 (D : Int)], .bool true]) (by simp [results, Try.results112, go_sem, *]) rfl ⟨by rw [← HVf.out, if_pos HN.out.1, if_pos HN.out.2, HV.out, HD.out], HL.out _ _⟩
      · by_cases hv0 : v < 0
        · have HV := Lib.hid (show u * v = (-(P : Int)) by rw [HUV.out, decide_eq_false hu0, decide_eq_true hv0]; rfl)
          have hd1 := decide_eq_false hu0
          have hd2 := decide_eq_true hv0
          go_upto_if 61 with fail
          go_wp2_with fail
          refine bodyPost_ret (v := .tuple #[.agg #[.int .i64 (-(P : Int)), .int .i64 (D : Int)], .bool true]) (by simp [results, Try.results112, go_sem, *]) rfl ⟨by rw [← HVf.out, if_pos HN.out.1, if_pos HN.out.2, HV.out, HD.out], HL.out _ _⟩
        · have HV := Lib.hid (show u * v = (P : Int) by rw [HUV.out, decide_eq_false hu0, decide_eq_false hv0]; rfl)
          have hd1 := decide_eq_false hu0
          have hd2 := decide_eq_false hv0
          go_upto_if 61 with fail
          go_wp2_with fail
          refine bodyPost_ret (v := .tuple #[.agg #[.int .i64 (P : Int), .int .i64 (D : Int)], .bool true]) (by simp [results, Try.results112, go_sem, *]) rfl ⟨by rw [← HVf.out, if_pos HN.out.1, if_pos HN.out.2, HV.out, HD.out], HL.out _ _⟩
end Go.Proofs.Ytklnfhjgbmfilaa

import Derived.Test.YtaneocedklnajaaGreatFmQ
import Derived.Test.YtaneocedklnajaaGreatB10
/- The reference's comparison and sum of fractions, and the law's own. Condition: valid fractions. -/
namespace Go.Proofs.YtaneocedklnajaaGreat
open Go.RowKit
set_option linter.unusedVariables false

/-- Two fractions in their boxes. -/
structure Fb2 (w : World) (p b q c : Int) (wr : World) : Prop where
  b0 : C2 wr w.heap.size (.int .i64 p) (.int .i64 b)
  b1 : C2 wr (w.heap.size + 1) (.int .i64 q) (.int .i64 c)
  bel : Below w.heap.size w wr
theorem Fb2.all {w wr wx : World} {p b q c : Int} (h : Fb2 w p b q c wr) (hb : Below wr.heap.size wr wx) : Fb2 w p b q c wx := ⟨h.b0.all hb, h.b1.all hb, bthen h.bel hb⟩
theorem Fb2.start (w : World) (p b q c : Int) (t : Nat) : Fb2 w p b q c ((w.alloc (.cells #[.int .i64 p, .int .i64 b] t)).alloc (.cells #[.int .i64 q, .int .i64 c] t)) := by
  have hA : Below w.heap.size w ((w.alloc (.cells #[.int .i64 p, .int .i64 b] t)).alloc (.cells #[.int .i64 q, .int .i64 c] t)) := ((Below.refl _ w).alloc (Nat.le_refl _) _).alloc (by simp) _
  have e1 : (w.alloc (.cells #[.int .i64 p, .int .i64 b] t)).heap.size = w.heap.size + 1 := alloc_size _ _
  refine ⟨(C2.new w t _ _).all ((Below.refl _ _).alloc (Nat.le_refl _) _), ?_, hA⟩
  have := C2.new (w.alloc (.cells #[.int .i64 p, .int .i64 b] t)) t (.int .i64 q) (.int .i64 c)
  rw [e1] at this
  exact this
theorem al_belM (w : World) (o : Obj) : Below w.heap.size w (w.alloc o) := (Below.refl _ w).alloc (Nat.le_refl _) o
theorem specCompare_any (p b q c : Nat) (w : World) (h1 : vF (p : Nat) (b : Nat) = true) (h2 : vF (q : Nat) (c : Nat) = true) :
    Calls Tryz.prog 50 #[.agg #[.int .i64 (p : Nat), .int .i64 (b : Nat)], .agg #[.int .i64 (q : Nat), .int .i64 (c : Nat)]] w fun e w' => e = .returned (.tuple #[.int .i64 (B30.cmpN (p * c) (q * b)), .bool true]) ∧ Below w.heap.size w w' := by
  have H0 := Lib.hid (Fb2.start w (p : Nat) (b : Nat) (q : Nat) (c : Nat) 40)
  have HV1 := Lib.hid (fun w => by have := l01FIs_any (p : Nat) (b : Nat) w; rw [h1] at this; exact this)
  have HV2 := Lib.hid (fun w => by have := l01FIs_any (q : Nat) (c : Nat) w; rw [h2] at this; exact this)
  have g1 := vF_iff.1 h1
  have g2 := vF_iff.1 h2
  have HC := Lib.hid (fun w => l01FCmp_nn p b q c w (by omega) (by omega) (by omega) (by omega))
  clear h1 h2 g1 g2
  go_enter Tryz.func50, Tryz.ntmps50
  obtain ⟨y0, y1, y2, y3, y4⟩ := H0.out.b0
  go_wp2_with fail
  obtain ⟨wA, hwA⟩ : ∃ w', (w.alloc (.cells #[.int .i64 (p : Nat), .int .i64 (b : Nat)] 40)).alloc (.cells #[.int .i64 (q : Nat), .int .i64 (c : Nat)] 40) = w' := ⟨_, rfl⟩
  rw [hwA] at H0 y0 y1 y2 y3 y4 ⊢
  clear hwA
  refine (HV1.out _).mono ?_
  rintro e w1 ⟨rfl, hb⟩
  have H1 := Lib.hid (H0.out.all hb)
  clear hb y0 y1 y2 y3 y4 H0
  obtain ⟨y0, y1, y2, y3, y4⟩ := H1.out.b1
  go_wp2_with fail
  refine (HV2.out _).mono ?_
  rintro e w2 ⟨rfl, hb⟩
  have H2 := Lib.hid (H1.out.all hb)
  clear hb y0 y1 y2 y3 y4 H1
  obtain ⟨y0, y1, y2, y3, y4⟩ := H2.out.b1
  obtain ⟨x0, x1, x2, x3, x4⟩ := H2.out.b0
  go_wp2_with fail
  refine (HC.out _).mono ?_
  rintro e w3 ⟨rfl, hb⟩
  have H3 := Lib.hid (H2.out.all hb)
  clear hb y0 y1 y2 y3 y4 x0 x1 x2 x3 x4 H2
  go_wp2_with fail
  go_ret2
  exact ⟨rfl, H3.out.bel⟩
theorem specAdd_any (p b q c : Int) (w : World) (h1 : vF p b = true) (h2 : vF q c = true) (hf : fitR (mkRat p b.toNat + mkRat q c.toNat) = true) :
    Calls Tryz.prog 62 #[.agg #[.int .i64 p, .int .i64 b], .agg #[.int .i64 q, .int .i64 c]] w fun e w' => e = .returned (.tuple #[.agg #[.int .i64 (mkRat p b.toNat + mkRat q c.toNat).num, .int .i64 ((mkRat p b.toNat + mkRat q c.toNat).den : Nat)], .bool true]) ∧ Below w.heap.size w w' := by
  have H0 := Lib.hid (And.intro ((Fb2.start w p b q c 40).all (al_belM _ (.cells #[.int .i64 0, .int .i64 0] 40))) (show C2 _ (w.heap.size + 2) (.int .i64 0) (.int .i64 0) from by
    have e2 : ((w.alloc (.cells #[.int .i64 p, .int .i64 b] 40)).alloc (.cells #[.int .i64 q, .int .i64 c] 40)).heap.size = w.heap.size + 2 := by simp only [alloc_size]
    have := C2.new ((w.alloc (.cells #[.int .i64 p, .int .i64 b] 40)).alloc (.cells #[.int .i64 q, .int .i64 c] 40)) 40 (.int .i64 0) (.int .i64 0)
    rw [e2] at this
    exact this))
  have HV1 := Lib.hid (fun w => by have := l01FIs_any p b w; rw [h1] at this; exact this)
  have HV2 := Lib.hid (fun w => by have := l01FIs_any q c w; rw [h2] at this; exact this)
  obtain ⟨r, hr⟩ : ∃ r, mkRat p b.toNat + mkRat q c.toNat = r := ⟨_, rfl⟩
  have hC := fun w => fadd_v p q b c w h1 h2
  rw [hr, fracV_fit (by rw [← hr]; exact hf)] at hC
  rw [hr]
  have HC := Lib.hid hC
  clear h1 h2 hf hr hC
  go_enter Tryz.func62, Tryz.ntmps62
  obtain ⟨y0, y1, y2, y3, y4⟩ := H0.out.1.b0
  go_wp2_with fail
  obtain ⟨wA, hwA⟩ : ∃ w', ((w.alloc (.cells #[.int .i64 p, .int .i64 b] 40)).alloc (.cells #[.int .i64 q, .int .i64 c] 40)).alloc (.cells #[.int .i64 0, .int .i64 0] 40) = w' := ⟨_, rfl⟩
  rw [hwA] at H0 y0 y1 y2 y3 y4 ⊢
  clear hwA
  refine (HV1.out _).mono ?_
  rintro e w1 ⟨rfl, hb⟩
  have H1 := Lib.hid (And.intro (H0.out.1.all hb) (H0.out.2.all hb))
  clear hb y0 y1 y2 y3 y4 H0
  obtain ⟨y0, y1, y2, y3, y4⟩ := H1.out.1.b1
  go_wp2_with fail
  refine (HV2.out _).mono ?_
  rintro e w2 ⟨rfl, hb⟩
  have H2 := Lib.hid (And.intro (H1.out.1.all hb) (H1.out.2.all hb))
  clear hb y0 y1 y2 y3 y4 H1
  obtain ⟨y0, y1, y2, y3, y4⟩ := H2.out.1.b1
  obtain ⟨x0, x1, x2, x3, x4⟩ := H2.out.1.b0
  go_wp2_with fail
  refine (HC.out _).mono ?_
  rintro e w3 ⟨rfl, hb⟩
  have H3 := Lib.hid (And.intro (H2.out.1.all hb) (H2.out.2.all hb))
  clear hb y0 y1 y2 y3 y4 x0 x1 x2 x3 x4 H2
  obtain ⟨y0, y1, y2, y3, y4⟩ := H3.out.2
  go_wp2_with fail
  refine bodyPost_ret (v := .tuple #[.agg #[.int .i64 r.num, .int .i64 (r.den : Nat)], .bool true]) (by simp [results, Tryz.results62, go_sem, *]) rfl ⟨rfl, ?_⟩
  exact below_two H3.out.1.bel (by omega) _ _
theorem b10Less_no (p b q c : Nat) (w : World) (h1 : vF (p : Nat) (b : Nat) = true) (h2 : vF (q : Nat) (c : Nat) = true) (h : q * b ≤ p * c) :
    Calls Tryz.prog 18 #[.agg #[.int .i64 (p : Nat), .int .i64 (b : Nat)], .agg #[.int .i64 (q : Nat), .int .i64 (c : Nat)]] w fun e w' => e = .returned (.bool false) ∧ Below w.heap.size w w' := by
  have H0 := Lib.hid (Fb2.start w (p : Nat) (b : Nat) (q : Nat) (c : Nat) 40)
  have HC := Lib.hid (fun w => specCompare_any p b q c w h1 h2)
  have hn : ¬ B30.cmpN (p * c) (q * b) < 0 := by
    unfold B30.cmpN
    rw [if_neg (by omega)]
    split <;> omega
  obtain ⟨z, hz⟩ : ∃ z, B30.cmpN (p * c) (q * b) = z := ⟨_, rfl⟩
  rw [hz] at HC hn
  have HN := Lib.hid (decide_eq_false hn)
  clear h1 h2 h hz hn
  go_enter Tryz.func18, Tryz.ntmps18
  obtain ⟨y0, y1, y2, y3, y4⟩ := H0.out.b0
  obtain ⟨x0, x1, x2, x3, x4⟩ := H0.out.b1
  go_wp2_with fail
  obtain ⟨wA, hwA⟩ : ∃ w', (w.alloc (.cells #[.int .i64 (p : Nat), .int .i64 (b : Nat)] 40)).alloc (.cells #[.int .i64 (q : Nat), .int .i64 (c : Nat)] 40) = w' := ⟨_, rfl⟩
  rw [hwA] at H0 y0 y1 y2 y3 y4 x0 x1 x2 x3 x4 ⊢
  clear hwA
  refine (HC.out _).mono ?_
  rintro e w1 ⟨rfl, hb⟩
  have H1 := Lib.hid (H0.out.all hb)
  clear hb y0 y1 y2 y3 y4 x0 x1 x2 x3 x4 H0
  go_wp2_with fail
  go_ret
  exact ⟨by show Ending.returned (.bool (decide (z < 0))) = _; rw [HN.out], H1.out.bel⟩
theorem b10Add_any (p b q c : Int) (w : World) (h1 : vF p b = true) (h2 : vF q c = true) (hf : fitR (mkRat p b.toNat + mkRat q c.toNat) = true) :
    Calls Tryz.prog 22 #[.agg #[.int .i64 p, .int .i64 b], .agg #[.int .i64 q, .int .i64 c]] w fun e w' => e = .returned (.agg #[.int .i64 (mkRat p b.toNat + mkRat q c.toNat).num, .int .i64 ((mkRat p b.toNat + mkRat q c.toNat).den : Nat)]) ∧ Below w.heap.size w w' := by
  have H0 := Lib.hid (And.intro ((Fb2.start w p b q c 40).all (al_belM _ (.cells #[.int .i64 0, .int .i64 0] 40))) (show C2 _ (w.heap.size + 2) (.int .i64 0) (.int .i64 0) from by
    have e2 : ((w.alloc (.cells #[.int .i64 p, .int .i64 b] 40)).alloc (.cells #[.int .i64 q, .int .i64 c] 40)).heap.size = w.heap.size + 2 := by simp only [alloc_size]
    have := C2.new ((w.alloc (.cells #[.int .i64 p, .int .i64 b] 40)).alloc (.cells #[.int .i64 q, .int .i64 c] 40)) 40 (.int .i64 0) (.int .i64 0)
    rw [e2] at this
    exact this))
  have HC := Lib.hid (fun w => specAdd_any p b q c w h1 h2 hf)
  obtain ⟨r, hr⟩ : ∃ r, mkRat p b.toNat + mkRat q c.toNat = r := ⟨_, rfl⟩
  rw [hr] at HC ⊢
  clear h1 h2 hf hr
  go_enter Tryz.func22, Tryz.ntmps22
  obtain ⟨y0, y1, y2, y3, y4⟩ := H0.out.1.b0
  obtain ⟨x0, x1, x2, x3, x4⟩ := H0.out.1.b1
  go_wp2_with fail
  obtain ⟨wA, hwA⟩ : ∃ w', ((w.alloc (.cells #[.int .i64 p, .int .i64 b] 40)).alloc (.cells #[.int .i64 q, .int .i64 c] 40)).alloc (.cells #[.int .i64 0, .int .i64 0] 40) = w' := ⟨_, rfl⟩
  rw [hwA] at H0 y0 y1 y2 y3 y4 x0 x1 x2 x3 x4 ⊢
  clear hwA
  refine (HC.out _).mono ?_
  rintro e w1 ⟨rfl, hb⟩
  have H1 := Lib.hid (And.intro (H0.out.1.all hb) (H0.out.2.all hb))
  clear hb y0 y1 y2 y3 y4 x0 x1 x2 x3 x4 H0
  have hA1 := al_belM w1 (.cells #[.int .i64 r.num, .int .i64 (r.den : Nat)] 40)
  have H2 := Lib.hid (And.intro (H1.out.1.all hA1) (H1.out.2.all hA1))
  obtain ⟨y0, y1, y2, y3, y4⟩ := H2.out.2
  clear hA1
  go_wp2_with fail
  refine bodyPost_ret (v := .agg #[.int .i64 r.num, .int .i64 (r.den : Nat)]) (by simp [results, Tryz.results22, go_sem, *]) rfl ⟨rfl, ?_⟩
  exact below_two H2.out.1.bel (by omega) _ _
end Go.Proofs.YtaneocedklnajaaGreat

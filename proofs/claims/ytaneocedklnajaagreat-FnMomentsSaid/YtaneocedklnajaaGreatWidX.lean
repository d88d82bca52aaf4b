import Derived.Test.YtaneocedklnajaaGreatBigA
import Derived.Test.YtaneocedklnajaaGreatFrX
import Derived.Test.YtaneocedklnajaaGreatRatK
import Derived.Deep.RegionHeld3
import Derived.Test.YtaneocedklnajaaGreatWideX
import Derived.Deep.LoopGhost
import Derived.Test.YtaneocedklnajaaGreatAnyK
/- The reference's fractions of any size: what lies in memory, and a valid fraction as one. No condition but bounds. -/
namespace Go.Proofs.YtaneocedklnajaaGreat
open Go.RowKit
set_option linter.unusedVariables false
namespace B30

/-- A box of six cells. -/
structure C6 (w : World) (b : Nat) (v0 v1 v2 v3 v4 v5 : Value) : Prop where
  c0 : w.cell? ⟨b, 0, none⟩ = some v0
  c1 : w.cell? ⟨b, 1, none⟩ = some v1
  c2 : w.cell? ⟨b, 2, none⟩ = some v2
  c3 : w.cell? ⟨b, 3, none⟩ = some v3
  c4 : w.cell? ⟨b, 4, none⟩ = some v4
  c5 : w.cell? ⟨b, 5, none⟩ = some v5
  f0 : w.frozen? ⟨b, 0, none⟩ = false
  f1 : w.frozen? ⟨b, 1, none⟩ = false
  f2 : w.frozen? ⟨b, 2, none⟩ = false
  f3 : w.frozen? ⟨b, 3, none⟩ = false
  f4 : w.frozen? ⟨b, 4, none⟩ = false
  f5 : w.frozen? ⟨b, 5, none⟩ = false
  lt : b < w.heap.size
theorem C6.of_heap {w : World} {b t : Nat} {v0 v1 v2 v3 v4 v5 : Value} (h : w.heap[b]? = some (.cells #[v0, v1, v2, v3, v4, v5] t (0, 0))) : C6 w b v0 v1 v2 v3 v4 v5 :=
  ⟨by simp [World.cell?, h], by simp [World.cell?, h], by simp [World.cell?, h], by simp [World.cell?, h], by simp [World.cell?, h], by simp [World.cell?, h], by simp [World.frozen?, h], by simp [World.frozen?, h], by simp [World.frozen?, h], by simp [World.frozen?, h], by simp [World.frozen?, h], by simp [World.frozen?, h], lt_of_heap h⟩
theorem C6.new (w : World) (t : Nat) (v0 v1 v2 v3 v4 v5 : Value) : C6 (w.alloc (.cells #[v0, v1, v2, v3, v4, v5] t (0, 0))) w.heap.size v0 v1 v2 v3 v4 v5 := C6.of_heap (heap_at_new w _)
theorem C6.all {w w' : World} {b : Nat} {v0 v1 v2 v3 v4 v5 : Value} (h : C6 w b v0 v1 v2 v3 v4 v5) (hb : Below w.heap.size w w') : C6 w' b v0 v1 v2 v3 v4 v5 :=
  ⟨(hb.cell (p := ⟨b, 0, none⟩) h.lt).trans h.c0, (hb.cell (p := ⟨b, 1, none⟩) h.lt).trans h.c1, (hb.cell (p := ⟨b, 2, none⟩) h.lt).trans h.c2, (hb.cell (p := ⟨b, 3, none⟩) h.lt).trans h.c3, (hb.cell (p := ⟨b, 4, none⟩) h.lt).trans h.c4, (hb.cell (p := ⟨b, 5, none⟩) h.lt).trans h.c5, (hb.frozen (p := ⟨b, 0, none⟩) h.lt).trans h.f0, (hb.frozen (p := ⟨b, 1, none⟩) h.lt).trans h.f1, (hb.frozen (p := ⟨b, 2, none⟩) h.lt).trans h.f2, (hb.frozen (p := ⟨b, 3, none⟩) h.lt).trans h.f3, (hb.frozen (p := ⟨b, 4, none⟩) h.lt).trans h.f4, (hb.frozen (p := ⟨b, 5, none⟩) h.lt).trans h.f5, Nat.lt_of_lt_of_le h.lt hb.size⟩
def put6 (w : World) (b : Nat) (v0 v1 v2 v3 v4 v5 : Value) : World := (((((w.setCell ⟨b, 0, none⟩ v0).setCell ⟨b, 1, none⟩ v1).setCell ⟨b, 2, none⟩ v2).setCell ⟨b, 3, none⟩ v3).setCell ⟨b, 4, none⟩ v4).setCell ⟨b, 5, none⟩ v5
theorem put6_below {w w' : World} {B b : Nat} (h : Below B w w') (hb : B ≤ b) (v0 v1 v2 v3 v4 v5 : Value) : Below B w (put6 w' b v0 v1 v2 v3 v4 v5) := (((((h.setCell (p := ⟨b, 0, none⟩) hb v0).setCell (p := ⟨b, 1, none⟩) hb v1).setCell (p := ⟨b, 2, none⟩) hb v2).setCell (p := ⟨b, 3, none⟩) hb v3).setCell (p := ⟨b, 4, none⟩) hb v4).setCell (p := ⟨b, 5, none⟩) hb v5
theorem isBig_set {w : World} {a : Option Addr} {l n b o : Nat} (h : IsBig w a l n) (hn : ∀ g off, a = some ⟨g, off, none⟩ → g ≠ b) (v : Value) : IsBig (w.setCell ⟨b, o, none⟩ v) a l n := by
  refine ⟨h.sm, h.len, h.rd.1, fun j hj => ?_⟩
  obtain ⟨g, off, e, c⟩ := h.rd.2 j hj
  refine ⟨g, off, e, ?_⟩
  rw [World.cell?_setCell_other _ _ _ _ (fun e2 => by injection e2 with e3; exact hn g off e e3.symm)]
  exact c
theorem isBig_put {w : World} {a : Option Addr} {l n b : Nat} (h : IsBig w a l n) (hn : ∀ g off, a = some ⟨g, off, none⟩ → g ≠ b) (v0 v1 v2 v3 v4 v5 : Value) : IsBig (put6 w b v0 v1 v2 v3 v4 v5) a l n :=
  isBig_set (isBig_set (isBig_set (isBig_set (isBig_set (isBig_set h hn v0) hn v1) hn v2) hn v3) hn v4) hn v5
theorem NewA.ne {B b : Nat} {a : Option Addr} (h : NewA B a) (hb : b < B) : ∀ g off, a = some ⟨g, off, none⟩ → g ≠ b := by
  intro g off e
  obtain ⟨g', off', e', hg⟩ := h
  rw [e'] at e
  simp only [Option.some.injEq, Addr.mk.injEq] at e
  omega
/-- A call's answer, with two older blocks kept. -/
theorem retB_of {P : Program} {f : Nat} {args : Array Value} {w : World} {n b0 b1 : Nat} (h : Calls P f args w (RetBig w n)) (q0 : b0 < w.heap.size) (q1 : b1 < w.heap.size) :
    Calls P f args w fun e w' => ∃ a c l, e = .returned (.slice a l c) ∧ Hid (IsBig w' a l n ∧ CapOk l c ∧ Below w.heap.size w w' ∧ NewA w.heap.size a) ∧
      (∀ o, w'.cell? ⟨b0, o, none⟩ = w.cell? ⟨b0, o, none⟩) ∧ (∀ o, w'.cell? ⟨b1, o, none⟩ = w.cell? ⟨b1, o, none⟩) ∧ (∀ o, w'.frozen? ⟨b1, o, none⟩ = w.frozen? ⟨b1, o, none⟩) ∧ b0 < w'.heap.size ∧ b1 < w'.heap.size ∧ w.heap.size ≤ w'.heap.size := by
  refine h.mono ?_
  rintro e w' ⟨a, c, l, rfl, h1, h2, hb, h3⟩
  exact ⟨a, c, l, rfl, Lib.hid ⟨h1, h2, hb, h3⟩, fun o => hb.cell (p := ⟨b0, o, none⟩) q0, fun o => hb.cell (p := ⟨b1, o, none⟩) q1, fun o => hb.frozen (p := ⟨b1, o, none⟩) q1, Nat.lt_of_lt_of_le q0 hb.size, Nat.lt_of_lt_of_le q1 hb.size, hb.size⟩
/-- What a fraction of any size means. -/
structure WvI (w : World) (a1 a2 : Option Addr) (l1 c1 l2 c2 : Nat) (sg fine : Bool) (p q : Int) (N D : Nat) (r : Rat) : Prop where
  n : IsBig w a1 l1 N
  d : IsBig w a2 l2 D
  cn : CapOk l1 c1
  cd : CapOk l2 c2
  pos : D ≠ 0
  val : mkRat (sgn sg N) D = r
  fin : fine = true → vF p q = true ∧ mkRat p q.toNat = r ∧ N = p.natAbs ∧ D = q.toNat
theorem WvI.below {w w' : World} {a1 a2 : Option Addr} {l1 c1 l2 c2 : Nat} {sg fine : Bool} {p q : Int} {N D : Nat} {r : Rat} (h : WvI w a1 a2 l1 c1 l2 c2 sg fine p q N D r) (hb : Below w.heap.size w w') : WvI w' a1 a2 l1 c1 l2 c2 sg fine p q N D r :=
  ⟨h.n.below hb, h.d.below hb, h.cn, h.cd, h.pos, h.val, h.fin⟩
/-- A call's answer: a fraction of any size, in new memory. -/
def RetWide (w : World) (B : Nat) (r : Rat) (b : Nat) (e : Ending) (w' : World) : Prop := ∃ sg a1 l1 c1 a2 l2 c2 fine p q N D, e = .returned (.agg #[.bool sg, .slice a1 l1 c1, .slice a2 l2 c2, .bool fine, .int .i64 p, .int .i64 q]) ∧ WvI w' a1 a2 l1 c1 l2 c2 sg fine p q N D r ∧ (N < 2 ^ b ∧ D < 2 ^ b) ∧ (NewA B a1 ∧ NewA B a2) ∧ Below w.heap.size w w'
def zeroW : Obj := .cells #[.bool false, .slice none 0 0, .slice none 0 0, .bool false, .int .i64 0, .int .i64 0] 55
theorem big_lt {N b k : Nat} {w : World} {a : Option Addr} {l : Nat} (h : IsBig w a l N) (hn : N < 2 ^ b) (hb : b ≤ 30 * k) : l ≤ k := by
  rw [← h.len]
  refine digs_len_le (Nat.lt_of_lt_of_le hn ?_)
  rw [pow_bse]
  exact Nat.pow_le_pow_right (by omega) hb
set_option maxRecDepth 20000 in
set_option maxHeartbeats 6400000 in
theorem wideOf_any (p q : Int) (w : World) (hv : vF p q = true) : Calls Tryz.prog 27 #[.agg #[.int .i64 p, .int .i64 q]] w (RetWide w w.heap.size (mkRat p q.toNat) 60) := by
  obtain ⟨⟨hq1, hq2⟩, ⟨hp1, hp2⟩, hg⟩ := vF_iff.1 hv
  obtain ⟨Q, rfl⟩ := Int.eq_ofNat_of_zero_le (show 0 ≤ q by omega)
  obtain ⟨U, hU⟩ : ∃ U, p.natAbs = U := ⟨_, rfl⟩
  have HM := Lib.hid (fun (w : World) => l00Max_abs p w (by omega) (by omega))
  rw [hU] at HM
  have HB1 := Lib.hid (fun (w : World) => bigOf_any U w (by omega))
  have HB2 := Lib.hid (fun (w : World) => bigOf_any Q w (by omega))
  have hwp : IntKind.i64.wrap (-p) = -p := IntWalk.i64_in _ (by omega)
  have HV := Lib.hid (And.intro hv (And.intro (show U ≤ 1000000000000000000 by omega) (And.intro (show Q ≤ 1000000000000000000 by omega) (And.intro (show Q ≠ 0 by omega) hU))))
  obtain ⟨sg, hsg⟩ : ∃ sg, decide (p < 0) = sg := ⟨_, rfl⟩
  have HS := Lib.hid hsg
  clear hv hU hg
  have hA : Below w.heap.size w ((w.alloc (.cells #[.int .i64 p, .int .i64 (Q : Nat)] 40)).alloc zeroW) := ((Below.refl _ w).alloc (Nat.le_refl _) _).alloc (by simp) _
  have hc0 : C2 ((w.alloc (.cells #[.int .i64 p, .int .i64 (Q : Nat)] 40)).alloc zeroW) w.heap.size (.int .i64 p) (.int .i64 (Q : Nat)) := (C2.new w _ _ _).all ((Below.refl _ _).alloc (Nat.le_refl _) _)
  have hc1 : C6 ((w.alloc (.cells #[.int .i64 p, .int .i64 (Q : Nat)] 40)).alloc zeroW) (w.heap.size + 1) (.bool false) (.slice none 0 0) (.slice none 0 0) (.bool false) (.int .i64 0) (.int .i64 0) := by
    have := C6.new (w.alloc (.cells #[.int .i64 p, .int .i64 (Q : Nat)] 40)) 55 (.bool false) (.slice none 0 0) (.slice none 0 0) (.bool false) (.int .i64 0) (.int .i64 0)
    rw [alloc_size] at this; exact this
  unfold zeroW at hA hc0 hc1
  go_enter Tryz.func27, Tryz.ntmps27
  go_wp2_with fail
  obtain ⟨wA, hwA⟩ : ∃ w', ((w.alloc (.cells #[.int .i64 p, .int .i64 (Q : Nat)] 40)).alloc (.cells #[.bool false, .slice none 0 0, .slice none 0 0, .bool false, .int .i64 0, .int .i64 0] 55)) = w' := ⟨_, rfl⟩
  rw [hwA] at hA hc0 hc1 ⊢
  clear hwA
  have HA := Lib.hid hA
  obtain ⟨x0, x1, x2, x3, x4⟩ := hc0
  obtain ⟨y0, y1, y2, y3, y4, y5, g0, g1, g2, g3, g4, g5, y6⟩ := hc1
  clear hA
  go_region_held3 (fun w' => w'.cell? ⟨w.heap.size, 0, none⟩ = some (.int .i64 p) ∧ w'.cell? ⟨w.heap.size, 1, none⟩ = some (.int .i64 (Q : Nat)) ∧ w'.cell? ⟨w.heap.size + 1, 0, none⟩ = some (oldVal w' ⟨w.heap.size + 1, 0, none⟩) ∧ w'.cell? ⟨w.heap.size + 1, 1, none⟩ = some (oldVal w' ⟨w.heap.size + 1, 1, none⟩) ∧ w'.cell? ⟨w.heap.size + 1, 2, none⟩ = some (oldVal w' ⟨w.heap.size + 1, 2, none⟩) ∧ w'.cell? ⟨w.heap.size + 1, 3, none⟩ = some (oldVal w' ⟨w.heap.size + 1, 3, none⟩) ∧ w'.cell? ⟨w.heap.size + 1, 4, none⟩ = some (oldVal w' ⟨w.heap.size + 1, 4, none⟩) ∧ w'.cell? ⟨w.heap.size + 1, 5, none⟩ = some (oldVal w' ⟨w.heap.size + 1, 5, none⟩) ∧ w'.frozen? ⟨w.heap.size + 1, 0, none⟩ = false ∧ w'.frozen? ⟨w.heap.size + 1, 1, none⟩ = false ∧ w'.frozen? ⟨w.heap.size + 1, 2, none⟩ = false ∧ w'.frozen? ⟨w.heap.size + 1, 3, none⟩ = false ∧ w'.frozen? ⟨w.heap.size + 1, 4, none⟩ = false ∧ w'.frozen? ⟨w.heap.size + 1, 5, none⟩ = false ∧ w.heap.size < w'.heap.size ∧ w.heap.size + 1 < w'.heap.size)
    ((repeat' refine And.intro ?_ ?_) <;> first | (go_keep; done) | (refine oldVal_of ?_; (repeat refine some_set ?_); go_keep; done) | (go_keep; omega))
    (first
      | (go_at_call 69; refine (HM.out _).mono ?_; rintro e w5 ⟨rfl, rfl⟩)
      | (go_at_call_of 68 (Value.int IntKind.i64 (U : Int)); refine (retB_of (b0 := w.heap.size) (b1 := w.heap.size + 1) (HB1.out _) ?_ ?_).mono ?_; (first | omega | (simp [*]; done) | (simp [*]; omega)); (first | omega | (simp [*]; done) | (simp [*]; omega)); rintro e w6 ⟨b1, k1, i1, rfl, hX1, p0, p1, p2, p3, p4, p5⟩)
      | (go_at_call_of 68 (Value.int IntKind.i64 (Q : Int)); refine (retB_of (b0 := w.heap.size) (b1 := w.heap.size + 1) (HB2.out _) ?_ ?_).mono ?_; (first | omega | (simp [*]; done) | (simp [*]; omega)); (first | omega | (simp [*]; done) | (simp [*]; omega)); rintro e w7 ⟨b2, k2, i2, rfl, hX2, r0, r1, r2, r3, r4, r5⟩))
  rename_i hHeld
  clear hHeld
  have hbl := bthen ((Below.refl _ wA).drew) (bthen hX1.out.2.2.1 hX2.out.2.2.1)
  have hw1 : wA.drew.heap.size = wA.heap.size := rfl
  have hn1 := hX1.out.2.2.2.ne (b := w.heap.size + 1) (by rw [hw1]; exact y6)
  have hn2 := hX2.out.2.2.2.ne (b := w.heap.size + 1) p4
  have HF := Lib.hid (show WvI (put6 w7 (w.heap.size + 1) (.bool sg) (.slice b1 i1 k1) (.slice b2 i2 k2) (.bool true) (.int .i64 p) (.int .i64 (Q : Nat))) b1 b2 i1 k1 i2 k2 sg true p (Q : Int) U Q (mkRat p (Q : Int).toNat) from
    ⟨isBig_put (hX1.out.1.below hX2.out.2.2.1) hn1 _ _ _ _ _ _, isBig_put hX2.out.1 hn2 _ _ _ _ _ _, hX1.out.2.1, hX2.out.2.1, HV.out.2.2.2.1, by rw [← HS.out, ← HV.out.2.2.2.2, sgn_self]; rfl, fun _ => ⟨HV.out.1, rfl, HV.out.2.2.2.2.symm, rfl⟩⟩)
  have HNW := Lib.hid (show NewA w.heap.size b1 ∧ NewA w.heap.size b2 from ⟨hX1.out.2.2.2.le (by rw [hw1]; exact HA.out.size), hX2.out.2.2.2.le (Nat.le_trans HA.out.size (by have := hX1.out.2.2.1.size; rw [hw1] at this; exact this))⟩)
  have HBL := Lib.hid (put6_below (bthen HA.out hbl) (by omega : w.heap.size ≤ w.heap.size + 1) (.bool sg) (.slice b1 i1 k1) (.slice b2 i2 k2) (.bool true) (.int .i64 p) (.int .i64 (Q : Nat)))
  clear hbl hn1 hn2
  go_wp2_with fail
  refine bodyPost_ret (v := .agg #[.bool sg, .slice b1 i1 k1, .slice b2 i2 k2, .bool true, .int .i64 p, .int .i64 (Q : Nat)]) (by simp [results, Tryz.results27, go_sem, *]) rfl ?_
  exact ⟨sg, b1, i1, k1, b2, i2, k2, true, p, (Q : Int), U, Q, rfl, HF.out, ⟨Nat.lt_of_le_of_lt HV.out.2.1 (by decide), Nat.lt_of_le_of_lt HV.out.2.2.1 (by decide)⟩, HNW.out, HBL.out⟩
end B30
end Go.Proofs.YtaneocedklnajaaGreat
/- The reference's fractions of any size: products and sums. No condition but bounds. -/
namespace Go.Proofs.YtaneocedklnajaaGreat
open Go.RowKit
set_option linter.unusedVariables false
namespace B30

theorem sgn_mul (s t : Bool) (m n : Nat) : sgn s m * sgn t n = sgn (s != t) (m * n) := by
  cases s <;> cases t <;> simp [sgn, Int.natCast_mul, Int.neg_mul, Int.mul_neg]
theorem wide_mul_val {s t : Bool} {m n d e : Nat} {r q : Rat} (h1 : mkRat (sgn s m) d = r) (h2 : mkRat (sgn t n) e = q) : mkRat (sgn (s != t) (m * n)) (d * e) = r * q := by
  rw [← h1, ← h2, Rat.mkRat_mul_mkRat, sgn_mul]
theorem wide_add_val {s t : Bool} {m n d e : Nat} {r q : Rat} (hd : d ≠ 0) (he : e ≠ 0) (h1 : mkRat (sgn s m) d = r) (h2 : mkRat (sgn t n) e = q) : mkRat (sgn s (m * e) + sgn t (n * d)) (d * e) = r + q := by
  rw [← h1, ← h2, Rat.mkRat_add_mkRat _ _ hd he]
  have e1 : sgn s m * (e : Int) = sgn s (m * e) := by cases s <;> simp [sgn, Int.natCast_mul, Int.neg_mul]
  have e2 : sgn t n * (d : Int) = sgn t (n * d) := by cases t <;> simp [sgn, Int.natCast_mul, Int.neg_mul]
  rw [e1, e2]
theorem wide_add_same {s : Bool} {x y : Nat} : sgn s (x + y) = sgn s x + sgn s y := by cases s <;> simp [sgn] <;> omega
theorem wide_add_lt {s t : Bool} {x y : Nat} (h : s ≠ t) (hl : x < y) : sgn t (y - x) = sgn s x + sgn t y := by
  cases s <;> cases t <;> simp [sgn] at h ⊢ <;> omega
theorem wide_add_ge {s t : Bool} {x y : Nat} (h : s ≠ t) (hl : y ≤ x) : sgn s (x - y) = sgn s x + sgn t y := by
  cases s <;> cases t <;> simp [sgn] at h ⊢ <;> omega
theorem RetWide.mono {w : World} {B : Nat} {r : Rat} {b c : Nat} {e : Ending} {w' : World} (h : RetWide w B r b e w') (hc : b ≤ c) : RetWide w B r c e w' := by
  obtain ⟨sg, a1, l1, c1, a2, l2, c2, fine, p, q, N, D, e1, e2, ⟨e3, e4⟩, e5⟩ := h
  exact ⟨sg, a1, l1, c1, a2, l2, c2, fine, p, q, N, D, e1, e2, ⟨Nat.lt_of_lt_of_le e3 (Nat.pow_le_pow_right (by omega) hc), Nat.lt_of_lt_of_le e4 (Nat.pow_le_pow_right (by omega) hc)⟩, e5⟩
theorem mul_bits {m n x y : Nat} (h1 : m < 2 ^ x) (h2 : n < 2 ^ y) : m * n < 2 ^ (x + y) := by rw [Nat.pow_add]; exact Nat.mul_lt_mul'' h1 h2
theorem three_boxes6 (w : World) (o0 o1 o2 : Obj) : Below w.heap.size w (((w.alloc o0).alloc o1).alloc o2) := (((Below.refl _ w).alloc (Nat.le_refl _) _).alloc (by simp) _).alloc (by simp only [alloc_size]; omega) _
theorem retB3_of {P : Program} {f : Nat} {args : Array Value} {w : World} {n b0 b1 b2 : Nat} (h : Calls P f args w (RetBig w n)) (q0 : b0 < w.heap.size) (q1 : b1 < w.heap.size) (q2 : b2 < w.heap.size) :
    Calls P f args w fun e w' => ∃ a c l, e = .returned (.slice a l c) ∧ Hid (IsBig w' a l n ∧ CapOk l c ∧ Below w.heap.size w w' ∧ NewA w.heap.size a) ∧
      (∀ o, w'.cell? ⟨b0, o, none⟩ = w.cell? ⟨b0, o, none⟩) ∧ (∀ o, w'.cell? ⟨b1, o, none⟩ = w.cell? ⟨b1, o, none⟩) ∧ (∀ o, w'.cell? ⟨b2, o, none⟩ = w.cell? ⟨b2, o, none⟩) ∧ (∀ o, w'.frozen? ⟨b2, o, none⟩ = w.frozen? ⟨b2, o, none⟩) ∧ b0 < w'.heap.size ∧ b1 < w'.heap.size ∧ b2 < w'.heap.size := by
  refine h.mono ?_
  rintro e w' ⟨a, c, l, rfl, h1, h2, hb, h3⟩
  exact ⟨a, c, l, rfl, Lib.hid ⟨h1, h2, hb, h3⟩, fun o => hb.cell (p := ⟨b0, o, none⟩) q0, fun o => hb.cell (p := ⟨b1, o, none⟩) q1, fun o => hb.cell (p := ⟨b2, o, none⟩) q2, fun o => hb.frozen (p := ⟨b2, o, none⟩) q2, Nat.lt_of_lt_of_le q0 hb.size, Nat.lt_of_lt_of_le q1 hb.size, Nat.lt_of_lt_of_le q2 hb.size⟩
theorem put6_cell {w : World} {b g o : Nat} (hne : g ≠ b) (v0 v1 v2 v3 v4 v5 : Value) : (put6 w b v0 v1 v2 v3 v4 v5).cell? ⟨g, o, none⟩ = w.cell? ⟨g, o, none⟩ := by
  have e : ∀ p, (⟨b, p, none⟩ : Addr) ≠ ⟨g, o, none⟩ := fun p e => hne (by injection e with e1; exact e1.symm)
  unfold put6
  rw [World.cell?_setCell_other _ _ _ _ (e 5), World.cell?_setCell_other _ _ _ _ (e 4), World.cell?_setCell_other _ _ _ _ (e 3), World.cell?_setCell_other _ _ _ _ (e 2), World.cell?_setCell_other _ _ _ _ (e 1), World.cell?_setCell_other _ _ _ _ (e 0)]
/-- Two wide fractions in boxes, and a box for the answer. -/
structure W2 (w : World) (s1 s2 f1 f2 : Bool) (a1 a2 b1 b2 : Option Addr) (l1 c1 l2 c2 m1 k1 m2 k2 : Nat) (p1 q1 p2 q2 : Int) (N1 D1 N2 D2 : Nat) (r s : Rat) (wr : World) : Prop where
  x : C6 wr w.heap.size (.bool s1) (.slice a1 l1 c1) (.slice a2 l2 c2) (.bool f1) (.int .i64 p1) (.int .i64 q1)
  y : C6 wr (w.heap.size + 1) (.bool s2) (.slice b1 m1 k1) (.slice b2 m2 k2) (.bool f2) (.int .i64 p2) (.int .i64 q2)
  z : C6 wr (w.heap.size + 1 + 1) (.bool false) (.slice none 0 0) (.slice none 0 0) (.bool false) (.int .i64 0) (.int .i64 0)
  v1 : WvI wr a1 a2 l1 c1 l2 c2 s1 f1 p1 q1 N1 D1 r
  v2 : WvI wr b1 b2 m1 k1 m2 k2 s2 f2 p2 q2 N2 D2 s
  bel : Below w.heap.size w wr
theorem W2.all {w wr wx : World} {s1 s2 f1 f2 : Bool} {a1 a2 b1 b2 : Option Addr} {l1 c1 l2 c2 m1 k1 m2 k2 : Nat} {p1 q1 p2 q2 : Int} {N1 D1 N2 D2 : Nat} {r s : Rat} (h : W2 w s1 s2 f1 f2 a1 a2 b1 b2 l1 c1 l2 c2 m1 k1 m2 k2 p1 q1 p2 q2 N1 D1 N2 D2 r s wr) (hb : Below wr.heap.size wr wx) : W2 w s1 s2 f1 f2 a1 a2 b1 b2 l1 c1 l2 c2 m1 k1 m2 k2 p1 q1 p2 q2 N1 D1 N2 D2 r s wx := ⟨h.x.all hb, h.y.all hb, h.z.all hb, h.v1.below hb, h.v2.below hb, bthen h.bel hb⟩
theorem fmul_v (p q b c : Int) (w : World) (h1 : vF p b = true) (h2 : vF q c = true) :
    Calls Tryz.prog 66 #[.agg #[.int .i64 p, .int .i64 b], .agg #[.int .i64 q, .int .i64 c]] w fun e w' => e = .returned (fracV (mkRat p b.toNat * mkRat q c.toNat)) ∧ Below w.heap.size w w' := by
  obtain ⟨⟨hb, hb2⟩, hp, hg1⟩ := vF_iff.1 h1
  obtain ⟨⟨hc, hc2⟩, hq, hg2⟩ := vF_iff.1 h2
  obtain ⟨B, rfl⟩ := Int.eq_ofNat_of_zero_le (show 0 ≤ b by omega)
  obtain ⟨C, rfl⟩ := Int.eq_ofNat_of_zero_le (show 0 ≤ c by omega)
  simp only [Int.toNat_natCast] at hg1 hg2 ⊢
  exact l01FMul_any p q B C w (by omega) (by omega) (by omega) (by omega) (by omega) (by omega) hg1 hg2
set_option maxRecDepth 20000 in
set_option maxHeartbeats 6400000 in
theorem wideMul_any (s1 s2 f1 f2 : Bool) (a1 a2 b1 b2 : Option Addr) (l1 c1 l2 c2 m1 k1 m2 k2 : Nat) (p1 q1 p2 q2 : Int) (N1 D1 N2 D2 x y : Nat) (r s : Rat) (w : World) (h1 : WvI w a1 a2 l1 c1 l2 c2 s1 f1 p1 q1 N1 D1 r) (h2 : WvI w b1 b2 m1 k1 m2 k2 s2 f2 p2 q2 N2 D2 s)
    (hx1 : N1 < 2 ^ x) (hx2 : D1 < 2 ^ x) (hy1 : N2 < 2 ^ y) (hy2 : D2 < 2 ^ y) (hx : x ≤ 3000000) (hy : y ≤ 3000000) :
    Calls Tryz.prog 26 #[.agg #[.bool s1, .slice a1 l1 c1, .slice a2 l2 c2, .bool f1, .int .i64 p1, .int .i64 q1], .agg #[.bool s2, .slice b1 m1 k1, .slice b2 m2 k2, .bool f2, .int .i64 p2, .int .i64 q2]] w (RetWide w w.heap.size (r * s) (x + y + 60)) := by
  have hl1 := big_lt (k := 100000) h1.n hx1 (by omega)
  have hl2 := big_lt (k := 100000) h1.d hx2 (by omega)
  have hl3 := big_lt (k := 100000) h2.n hy1 (by omega)
  have hl4 := big_lt (k := 100000) h2.d hy2 (by omega)
  have hA := three_boxes6 w (.cells #[.bool s1, .slice a1 l1 c1, .slice a2 l2 c2, .bool f1, .int .i64 p1, .int .i64 q1] 55) (.cells #[.bool s2, .slice b1 m1 k1, .slice b2 m2 k2, .bool f2, .int .i64 p2, .int .i64 q2] 55) (.cells #[.bool false, .slice none 0 0, .slice none 0 0, .bool false, .int .i64 0, .int .i64 0] 55)
  obtain ⟨t0, t1, t2⟩ := three_boxes w (.cells #[.bool s1, .slice a1 l1 c1, .slice a2 l2 c2, .bool f1, .int .i64 p1, .int .i64 q1] 55) (.cells #[.bool s2, .slice b1 m1 k1, .slice b2 m2 k2, .bool f2, .int .i64 p2, .int .i64 q2] 55) (.cells #[.bool false, .slice none 0 0, .slice none 0 0, .bool false, .int .i64 0, .int .i64 0] 55)
  have H0 := Lib.hid (show W2 w s1 s2 f1 f2 a1 a2 b1 b2 l1 c1 l2 c2 m1 k1 m2 k2 p1 q1 p2 q2 N1 D1 N2 D2 r s (((w.alloc (.cells #[.bool s1, .slice a1 l1 c1, .slice a2 l2 c2, .bool f1, .int .i64 p1, .int .i64 q1] 55)).alloc (.cells #[.bool s2, .slice b1 m1 k1, .slice b2 m2 k2, .bool f2, .int .i64 p2, .int .i64 q2] 55)).alloc (.cells #[.bool false, .slice none 0 0, .slice none 0 0, .bool false, .int .i64 0, .int .i64 0] 55)) from ⟨C6.of_heap t0, C6.of_heap t1, C6.of_heap t2, h1.below hA, h2.below hA, hA⟩)
  have HP := Lib.hid (And.intro hx1 (And.intro hx2 (And.intro hy1 (And.intro hy2 (And.intro h1.pos h2.pos)))))
  have HVL := Lib.hid (And.intro h1.val h2.val)
  have HFN := Lib.hid (And.intro h1.fin h2.fin)
  clear t0 t1 t2 hA h1 h2 hx1 hx2 hy1 hy2
  by_cases hff : f1 = true ∧ f2 = true
  · obtain ⟨rfl, rfl⟩ := hff
    obtain ⟨hv1, hr1, _⟩ := HFN.out.1 rfl
    obtain ⟨hv2, hr2, _⟩ := HFN.out.2 rfl
    have HC := Lib.hid (fun w => fmul_v p1 p2 q1 q2 w hv1 hv2)
    rw [hr1, hr2] at HC
    clear hr1 hr2 hv1 hv2
    cases hfit : fitR (r * s) with
    | true =>
      rw [fracV_yes hfit] at HC
      have HW := Lib.hid (fun w => wideOf_any (r * s).num ((r * s).den : Int) w (vF_fit hfit))
      rw [Int.toNat_natCast, mk_self] at HW
      clear hfit
      go_enter Tryz.func26, Tryz.ntmps26
      obtain ⟨x0, x1, x2, x3, x4, x5, _, _, _, _, _, _, x6⟩ := H0.out.x
      obtain ⟨y0, y1, y2, y3, y4, y5, _, _, _, _, _, _, y6⟩ := H0.out.y
      go_wp2_with fail
      refine (HC.out _).mono ?_
      rintro e w1 ⟨rfl, hb1⟩
      have hb2 : Below w1.heap.size w1 (w1.alloc (.cells #[.int .i64 (r * s).num, .int .i64 ((r * s).den : Nat)] 40)) := (Below.refl _ _).alloc (Nat.le_refl _) _
      have H1 := Lib.hid ((H0.out.all hb1).all hb2)
      clear hb1 hb2 x0 x1 x2 x3 x4 x5 x6 y0 y1 y2 y3 y4 y5 y6
      go_wp2_with fail
      refine (HW.out _).mono ?_
      rintro e w2 ⟨sg, e1, d1, g1, e2, d2, g2, fine, pp, qq, N, D, rfl, hv, hbd, hnw, hb2⟩
      have H2 := Lib.hid (And.intro (H1.out.all hb2) (And.intro hv (And.intro hbd (And.intro hnw H1.out.z.lt))))
      clear hv hbd hnw hb2 H1
      obtain ⟨z0, z1, z2, z3, z4, z5, g0', g1', g2', g3', g4', g5', z6⟩ := H2.out.1.z
      go_wp2_with fail
      refine bodyPost_ret (v := .agg #[.bool sg, .slice e1 d1 g1, .slice e2 d2 g2, .bool fine, .int .i64 pp, .int .i64 qq]) (by simp [results, Tryz.results26, go_sem, *]) rfl ?_
      have hlt := H2.out.2.2.2.2
      have hlt2 : w.heap.size + 1 + 1 < w1.heap.size + 1 := by rw [alloc_size] at hlt; exact hlt
      have hw1 : w.heap.size ≤ w1.heap.size + 1 := by omega
      have hn1 := H2.out.2.2.2.1.1
      have hn2 := H2.out.2.2.2.1.2
      rw [alloc_size] at hn1 hn2
      exact ⟨sg, e1, d1, g1, e2, d2, g2, fine, pp, qq, N, D, rfl,
        ⟨isBig_put H2.out.2.1.n (hn1.ne hlt2) _ _ _ _ _ _, isBig_put H2.out.2.1.d (hn2.ne hlt2) _ _ _ _ _ _, H2.out.2.1.cn, H2.out.2.1.cd, H2.out.2.1.pos, H2.out.2.1.val, H2.out.2.1.fin⟩,
        ⟨Nat.lt_of_lt_of_le H2.out.2.2.1.1 (Nat.pow_le_pow_right (by omega) (by omega)), Nat.lt_of_lt_of_le H2.out.2.2.1.2 (Nat.pow_le_pow_right (by omega) (by omega))⟩, ⟨hn1.le hw1, hn2.le hw1⟩, put6_below H2.out.1.bel (by omega) _ _ _ _ _ _⟩
    | false =>
      rw [fracV_no hfit] at HC
      clear hfit
      go_enter Tryz.func26, Tryz.ntmps26
      obtain ⟨x0, x1, x2, x3, x4, x5, _, _, _, _, _, _, x6⟩ := H0.out.x
      obtain ⟨y0, y1, y2, y3, y4, y5, _, _, _, _, _, _, y6⟩ := H0.out.y
      go_wp2_with fail
      refine (HC.out _).mono ?_
      rintro e w1 ⟨rfl, hb1⟩
      have hb2 : Below w1.heap.size w1 (w1.alloc (.cells #[.int .i64 0, .int .i64 0] 40)) := (Below.refl _ _).alloc (Nat.le_refl _) _
      have H1 := Lib.hid ((H0.out.all hb1).all hb2)
      clear hb1 hb2 x0 x1 x2 x3 x4 x5 x6 y0 y1 y2 y3 y4 y5 y6
      go_wp2_with fail
      obtain ⟨wB, hwB⟩ : ∃ w', w1.alloc (.cells #[.int .i64 0, .int .i64 0] 40) = w' := ⟨_, rfl⟩
      have HB := Lib.hid H1.out
      rw [hwB] at HB
      rw [hwB]
      clear hwB H1 H0
      have HBd := Lib.hid (HB.out.all (Below.refl _ wB).drew)
      obtain ⟨sg, hsg⟩ : ∃ sg, (s1 != s2) = sg := ⟨_, rfl⟩
      have HSG := Lib.hid hsg
      refine wp_region_any (by kernel_rfl) (any_of_K (k := 16) (S := fun w' => True) (T := fun w' => w'.cell? ⟨w.heap.size, 0, none⟩ = some (.bool s1) ∧ w'.cell? ⟨w.heap.size, 1, none⟩ = some (.slice a1 l1 c1) ∧ w'.cell? ⟨w.heap.size, 2, none⟩ = some (.slice a2 l2 c2) ∧ w'.cell? ⟨w.heap.size + 1, 0, none⟩ = some (.bool s2) ∧ w'.cell? ⟨w.heap.size + 1, 1, none⟩ = some (.slice b1 m1 k1) ∧ w'.cell? ⟨w.heap.size + 1, 2, none⟩ = some (.slice b2 m2 k2)) _ _ _ _ ?_)
      have hS : True := trivial
      have hT : wB.drew.cell? ⟨w.heap.size, 0, none⟩ = some (.bool s1) ∧ wB.drew.cell? ⟨w.heap.size, 1, none⟩ = some (.slice a1 l1 c1) ∧ wB.drew.cell? ⟨w.heap.size, 2, none⟩ = some (.slice a2 l2 c2) ∧ wB.drew.cell? ⟨w.heap.size + 1, 0, none⟩ = some (.bool s2) ∧ wB.drew.cell? ⟨w.heap.size + 1, 1, none⟩ = some (.slice b1 m1 k1) ∧ wB.drew.cell? ⟨w.heap.size + 1, 2, none⟩ = some (.slice b2 m2 k2) := ⟨HBd.out.x.c0, HBd.out.x.c1, HBd.out.x.c2, HBd.out.y.c0, HBd.out.y.c1, HBd.out.y.c2⟩
      refine anyT_take (i := 0) (n := 16) (v := .pointer (some ⟨w.heap.size, 0, none⟩)) rfl (by decide) (by kernel_rfl) (by kernel_rfl) (by kernel_rfl) (fun _ _ _ h => h) (Or.inl ⟨by kernel_rfl, fun w' hw => by go_simp⟩) hS hT ?_
      refine anyT_take (i := 1) (n := 15) (v := .bool s1) rfl (by decide) (by kernel_rfl) (by kernel_rfl) (by kernel_rfl) (fun _ _ _ h => h) (Or.inl ⟨by kernel_rfl, fun w' hw => by (obtain ⟨u1, u2, u3, u4, u5, u6⟩ := hw; go_simp)⟩) hS hT ?_
      refine anyT_take (i := 2) (n := 14) (v := .pointer (some ⟨w.heap.size + 1, 0, none⟩)) rfl (by decide) (by kernel_rfl) (by kernel_rfl) (by kernel_rfl) (fun _ _ _ h => h) (Or.inl ⟨by kernel_rfl, fun w' hw => by go_simp⟩) hS hT ?_
      refine anyT_take (i := 3) (n := 13) (v := .bool s2) rfl (by decide) (by kernel_rfl) (by kernel_rfl) (by kernel_rfl) (fun _ _ _ h => h) (Or.inl ⟨by kernel_rfl, fun w' hw => by (obtain ⟨u1, u2, u3, u4, u5, u6⟩ := hw; go_simp)⟩) hS hT ?_
      refine anyT_take (i := 4) (n := 12) (v := .bool sg) rfl (by decide) (by kernel_rfl) (by kernel_rfl) (by kernel_rfl) (fun _ _ _ h => h) (Or.inl ⟨by kernel_rfl, fun w' hw => by (go_simp; rw [← HSG.out]; cases s1 <;> cases s2 <;> rfl)⟩) hS hT ?_
      refine anyT_take (i := 5) (n := 11) (v := .pointer (some ⟨w.heap.size, 1, none⟩)) rfl (by decide) (by kernel_rfl) (by kernel_rfl) (by kernel_rfl) (fun _ _ _ h => h) (Or.inl ⟨by kernel_rfl, fun w' hw => by go_simp⟩) hS hT ?_
      refine anyT_take (i := 6) (n := 10) (v := .slice a1 l1 c1) rfl (by decide) (by kernel_rfl) (by kernel_rfl) (by kernel_rfl) (fun _ _ _ h => h) (Or.inl ⟨by kernel_rfl, fun w' hw => by (obtain ⟨u1, u2, u3, u4, u5, u6⟩ := hw; go_simp)⟩) hS hT ?_
      refine anyT_take (i := 7) (n := 9) (v := .pointer (some ⟨w.heap.size + 1, 1, none⟩)) rfl (by decide) (by kernel_rfl) (by kernel_rfl) (by kernel_rfl) (fun _ _ _ h => h) (Or.inl ⟨by kernel_rfl, fun w' hw => by go_simp⟩) hS hT ?_
      refine anyT_take (i := 8) (n := 8) (v := .slice b1 m1 k1) rfl (by decide) (by kernel_rfl) (by kernel_rfl) (by kernel_rfl) (fun _ _ _ h => h) (Or.inl ⟨by kernel_rfl, fun w' hw => by (obtain ⟨u1, u2, u3, u4, u5, u6⟩ := hw; go_simp)⟩) hS hT ?_
      refine anyT_take (i := 10) (n := 7) (v := .pointer (some ⟨w.heap.size, 2, none⟩)) rfl (by decide) (by kernel_rfl) (by kernel_rfl) (by kernel_rfl) (fun _ _ _ h => h) (Or.inl ⟨by kernel_rfl, fun w' hw => by go_simp⟩) hS hT ?_
      refine anyT_take (i := 11) (n := 6) (v := .slice a2 l2 c2) rfl (by decide) (by kernel_rfl) (by kernel_rfl) (by kernel_rfl) (fun _ _ _ h => h) (Or.inl ⟨by kernel_rfl, fun w' hw => by (obtain ⟨u1, u2, u3, u4, u5, u6⟩ := hw; go_simp)⟩) hS hT ?_
      refine anyT_take (i := 12) (n := 5) (v := .pointer (some ⟨w.heap.size + 1, 2, none⟩)) rfl (by decide) (by kernel_rfl) (by kernel_rfl) (by kernel_rfl) (fun _ _ _ h => h) (Or.inl ⟨by kernel_rfl, fun w' hw => by go_simp⟩) hS hT ?_
      refine anyT_take (i := 13) (n := 4) (v := .slice b2 m2 k2) rfl (by decide) (by kernel_rfl) (by kernel_rfl) (by kernel_rfl) (fun _ _ _ h => h) (Or.inl ⟨by kernel_rfl, fun w' hw => by (obtain ⟨u1, u2, u3, u4, u5, u6⟩ := hw; go_simp)⟩) hS hT ?_
      clear hsg hT
      refine anyK_all (n := 3) (rs := [9]) (by kernel_rfl) (by simp) (fun i hi => ?_)
      simp only [List.mem_cons, List.not_mem_nil, or_false] at hi
      obtain rfl := hi
      refine wpOp_step rfl (fun K' hK => ?_)
      go_simp
      refine (bigTimes_any N1 N2 a1 b1 l1 m1 c1 k1 wB.drew (by omega) (by omega) HBd.out.v1.n HBd.out.v2.n).mono ?_
      rintro e w6 ⟨e1, i1, d1, rfl, hb6, hc6, hbl6, hnw6⟩
      have H6 := Lib.hid (And.intro (HBd.out.all hbl6) (And.intro hb6 (And.intro hc6 (hnw6.le HBd.out.bel.size))))
      have HN6 := Lib.hid (hnw6.ne (b := w.heap.size + 1 + 1) HBd.out.z.lt)
      refine hK _ _ ⟨fun _ _ => trivial, ⟨H6.out.1.x.c0, H6.out.1.x.c1, H6.out.1.x.c2, H6.out.1.y.c0, H6.out.1.y.c1, H6.out.1.y.c2⟩, ?_⟩
      clear hK hb6 hc6 hbl6 hnw6 HBd HB
      refine anyK_all (n := 2) (rs := [14]) (by kernel_rfl) (by simp) (fun i hi => ?_)
      simp only [List.mem_cons, List.not_mem_nil, or_false] at hi
      obtain rfl := hi
      refine wpOp_step rfl (fun K' hK => ?_)
      go_simp
      refine (bigTimes_any D1 D2 a2 b2 l2 m2 c2 k2 w6 (by omega) (by omega) H6.out.1.v1.d H6.out.1.v2.d).mono ?_
      rintro e w7 ⟨e2, i2, d2, rfl, hb7, hc7, hbl7, hnw7⟩
      have H7 := Lib.hid (And.intro (H6.out.1.all hbl7) (And.intro hb7 (And.intro hc7 (And.intro (hnw7.le H6.out.1.bel.size) (H6.out.2.1.below hbl7)))))
      have HN7 := Lib.hid (hnw7.ne (b := w.heap.size + 1 + 1) H6.out.1.z.lt)
      have hT : w7.cell? ⟨w.heap.size, 0, none⟩ = some (.bool s1) ∧ w7.cell? ⟨w.heap.size, 1, none⟩ = some (.slice a1 l1 c1) ∧ w7.cell? ⟨w.heap.size, 2, none⟩ = some (.slice a2 l2 c2) ∧ w7.cell? ⟨w.heap.size + 1, 0, none⟩ = some (.bool s2) ∧ w7.cell? ⟨w.heap.size + 1, 1, none⟩ = some (.slice b1 m1 k1) ∧ w7.cell? ⟨w.heap.size + 1, 2, none⟩ = some (.slice b2 m2 k2) := ⟨H7.out.1.x.c0, H7.out.1.x.c1, H7.out.1.x.c2, H7.out.1.y.c0, H7.out.1.y.c1, H7.out.1.y.c2⟩
      refine hK _ _ ⟨fun _ _ => trivial, hT, ?_⟩
      clear hK hb7 hc7 hbl7 hnw7
      refine anyT_take (i := 15) (n := 1) (v := .agg #[.bool sg, .slice e1 d1 i1, .slice e2 d2 i2, .bool false, .int .i64 0, .int .i64 0]) rfl (by decide) (by kernel_rfl) (by kernel_rfl) (by kernel_rfl) (fun _ _ _ h => h) (Or.inl ⟨by kernel_rfl, fun w' hw => by go_simp⟩) hS hT ?_
      clear hT
      refine anyK_all (n := 0) (rs := [16]) (by kernel_rfl) (by simp) (fun i hi => ?_)
      simp only [List.mem_cons, List.not_mem_nil, or_false] at hi
      obtain rfl := hi
      obtain ⟨z0, z1, z2, z3, z4, z5, g0', g1', g2', g3', g4', g5', z6⟩ := H7.out.1.z
      have HF := Lib.hid (show WvI (put6 w7 (w.heap.size + 1 + 1) (.bool sg) (.slice e1 d1 i1) (.slice e2 d2 i2) (.bool false) (.int .i64 0) (.int .i64 0)) e1 e2 d1 i1 d2 i2 sg false 0 0 (N1 * N2) (D1 * D2) (r * s) from ⟨isBig_put H7.out.2.2.2.2 HN6.out _ _ _ _ _ _, isBig_put H7.out.2.1 HN7.out _ _ _ _ _ _, H6.out.2.2.1, H7.out.2.2.1, Nat.mul_ne_zero HP.out.2.2.2.2.1 HP.out.2.2.2.2.2, by rw [← HSG.out]; exact wide_mul_val HVL.out.1 HVL.out.2, fun h => by cases h⟩)
      have HBL := Lib.hid (put6_below H7.out.1.bel (by omega : w.heap.size ≤ w.heap.size + 1 + 1) (.bool sg) (.slice e1 d1 i1) (.slice e2 d2 i2) (.bool false) (.int .i64 0) (.int .i64 0))
      have HT2 := Lib.hid (show (put6 w7 (w.heap.size + 1 + 1) (.bool sg) (.slice e1 d1 i1) (.slice e2 d2 i2) (.bool false) (.int .i64 0) (.int .i64 0)).cell? ⟨w.heap.size, 0, none⟩ = some (.bool s1) ∧ (put6 w7 (w.heap.size + 1 + 1) (.bool sg) (.slice e1 d1 i1) (.slice e2 d2 i2) (.bool false) (.int .i64 0) (.int .i64 0)).cell? ⟨w.heap.size, 1, none⟩ = some (.slice a1 l1 c1) ∧ (put6 w7 (w.heap.size + 1 + 1) (.bool sg) (.slice e1 d1 i1) (.slice e2 d2 i2) (.bool false) (.int .i64 0) (.int .i64 0)).cell? ⟨w.heap.size, 2, none⟩ = some (.slice a2 l2 c2) ∧ (put6 w7 (w.heap.size + 1 + 1) (.bool sg) (.slice e1 d1 i1) (.slice e2 d2 i2) (.bool false) (.int .i64 0) (.int .i64 0)).cell? ⟨w.heap.size + 1, 0, none⟩ = some (.bool s2) ∧ (put6 w7 (w.heap.size + 1 + 1) (.bool sg) (.slice e1 d1 i1) (.slice e2 d2 i2) (.bool false) (.int .i64 0) (.int .i64 0)).cell? ⟨w.heap.size + 1, 1, none⟩ = some (.slice b1 m1 k1) ∧ (put6 w7 (w.heap.size + 1 + 1) (.bool sg) (.slice e1 d1 i1) (.slice e2 d2 i2) (.bool false) (.int .i64 0) (.int .i64 0)).cell? ⟨w.heap.size + 1, 2, none⟩ = some (.slice b2 m2 k2) from ⟨(put6_cell (by omega) ..).trans H7.out.1.x.c0, (put6_cell (by omega) ..).trans H7.out.1.x.c1, (put6_cell (by omega) ..).trans H7.out.1.x.c2, (put6_cell (by omega) ..).trans H7.out.1.y.c0, (put6_cell (by omega) ..).trans H7.out.1.y.c1, (put6_cell (by omega) ..).trans H7.out.1.y.c2⟩)
      refine wpOp_step rfl (fun K' hK => ?_)
      go_simp
      refine hK _ _ ⟨fun _ _ => trivial, HT2.out, ?_⟩
      clear hK
      refine ⟨by kernel_rfl, ?_⟩
      go_wp2_with fail
      refine bodyPost_ret (v := .agg #[.bool sg, .slice e1 d1 i1, .slice e2 d2 i2, .bool false, .int .i64 0, .int .i64 0]) (by simp [results, Tryz.results26, go_sem, *]) rfl ?_
      exact ⟨sg, e1, d1, i1, e2, d2, i2, false, 0, 0, (N1 * N2), (D1 * D2), rfl, HF.out, ⟨Nat.lt_of_lt_of_le (mul_bits HP.out.1 HP.out.2.2.1) (Nat.pow_le_pow_right (by omega) (by omega)), Nat.lt_of_lt_of_le (mul_bits HP.out.2.1 HP.out.2.2.2.1) (Nat.pow_le_pow_right (by omega) (by omega))⟩, ⟨H6.out.2.2.2, H7.out.2.2.2.1⟩, HBL.out⟩
  · have hff2 : f1 = false ∨ (f1 = true ∧ f2 = false) := by cases f1 <;> cases f2 <;> simp_all
    clear hff
    rcases hff2 with rfl | ⟨rfl, rfl⟩
    · go_enter Tryz.func26, Tryz.ntmps26
      go_wp2_with fail
      obtain ⟨wB, hwB⟩ : ∃ w', (((w.alloc (.cells #[.bool s1, .slice a1 l1 c1, .slice a2 l2 c2, .bool false, .int .i64 p1, .int .i64 q1] 55)).alloc (.cells #[.bool s2, .slice b1 m1 k1, .slice b2 m2 k2, .bool f2, .int .i64 p2, .int .i64 q2] 55)).alloc (.cells #[.bool false, .slice none 0 0, .slice none 0 0, .bool false, .int .i64 0, .int .i64 0] 55)) = w' := ⟨_, rfl⟩
      have HB := Lib.hid H0.out
      rw [hwB] at HB
      rw [hwB]
      clear hwB H0
      have HBd := Lib.hid (HB.out.all (Below.refl _ wB).drew)
      obtain ⟨sg, hsg⟩ : ∃ sg, (s1 != s2) = sg := ⟨_, rfl⟩
      have HSG := Lib.hid hsg
      refine wp_region_any (by kernel_rfl) (any_of_K (k := 16) (S := fun w' => True) (T := fun w' => w'.cell? ⟨w.heap.size, 0, none⟩ = some (.bool s1) ∧ w'.cell? ⟨w.heap.size, 1, none⟩ = some (.slice a1 l1 c1) ∧ w'.cell? ⟨w.heap.size, 2, none⟩ = some (.slice a2 l2 c2) ∧ w'.cell? ⟨w.heap.size + 1, 0, none⟩ = some (.bool s2) ∧ w'.cell? ⟨w.heap.size + 1, 1, none⟩ = some (.slice b1 m1 k1) ∧ w'.cell? ⟨w.heap.size + 1, 2, none⟩ = some (.slice b2 m2 k2)) _ _ _ _ ?_)
      have hS : True := trivial
      have hT : wB.drew.cell? ⟨w.heap.size, 0, none⟩ = some (.bool s1) ∧ wB.drew.cell? ⟨w.heap.size, 1, none⟩ = some (.slice a1 l1 c1) ∧ wB.drew.cell? ⟨w.heap.size, 2, none⟩ = some (.slice a2 l2 c2) ∧ wB.drew.cell? ⟨w.heap.size + 1, 0, none⟩ = some (.bool s2) ∧ wB.drew.cell? ⟨w.heap.size + 1, 1, none⟩ = some (.slice b1 m1 k1) ∧ wB.drew.cell? ⟨w.heap.size + 1, 2, none⟩ = some (.slice b2 m2 k2) := ⟨HBd.out.x.c0, HBd.out.x.c1, HBd.out.x.c2, HBd.out.y.c0, HBd.out.y.c1, HBd.out.y.c2⟩
      refine anyT_take (i := 0) (n := 16) (v := .pointer (some ⟨w.heap.size, 0, none⟩)) rfl (by decide) (by kernel_rfl) (by kernel_rfl) (by kernel_rfl) (fun _ _ _ h => h) (Or.inl ⟨by kernel_rfl, fun w' hw => by go_simp⟩) hS hT ?_
      refine anyT_take (i := 1) (n := 15) (v := .bool s1) rfl (by decide) (by kernel_rfl) (by kernel_rfl) (by kernel_rfl) (fun _ _ _ h => h) (Or.inl ⟨by kernel_rfl, fun w' hw => by (obtain ⟨u1, u2, u3, u4, u5, u6⟩ := hw; go_simp)⟩) hS hT ?_
      refine anyT_take (i := 2) (n := 14) (v := .pointer (some ⟨w.heap.size + 1, 0, none⟩)) rfl (by decide) (by kernel_rfl) (by kernel_rfl) (by kernel_rfl) (fun _ _ _ h => h) (Or.inl ⟨by kernel_rfl, fun w' hw => by go_simp⟩) hS hT ?_
      refine anyT_take (i := 3) (n := 13) (v := .bool s2) rfl (by decide) (by kernel_rfl) (by kernel_rfl) (by kernel_rfl) (fun _ _ _ h => h) (Or.inl ⟨by kernel_rfl, fun w' hw => by (obtain ⟨u1, u2, u3, u4, u5, u6⟩ := hw; go_simp)⟩) hS hT ?_
      refine anyT_take (i := 4) (n := 12) (v := .bool sg) rfl (by decide) (by kernel_rfl) (by kernel_rfl) (by kernel_rfl) (fun _ _ _ h => h) (Or.inl ⟨by kernel_rfl, fun w' hw => by (go_simp; rw [← HSG.out]; cases s1 <;> cases s2 <;> rfl)⟩) hS hT ?_
      refine anyT_take (i := 5) (n := 11) (v := .pointer (some ⟨w.heap.size, 1, none⟩)) rfl (by decide) (by kernel_rfl) (by kernel_rfl) (by kernel_rfl) (fun _ _ _ h => h) (Or.inl ⟨by kernel_rfl, fun w' hw => by go_simp⟩) hS hT ?_
      refine anyT_take (i := 6) (n := 10) (v := .slice a1 l1 c1) rfl (by decide) (by kernel_rfl) (by kernel_rfl) (by kernel_rfl) (fun _ _ _ h => h) (Or.inl ⟨by kernel_rfl, fun w' hw => by (obtain ⟨u1, u2, u3, u4, u5, u6⟩ := hw; go_simp)⟩) hS hT ?_
      refine anyT_take (i := 7) (n := 9) (v := .pointer (some ⟨w.heap.size + 1, 1, none⟩)) rfl (by decide) (by kernel_rfl) (by kernel_rfl) (by kernel_rfl) (fun _ _ _ h => h) (Or.inl ⟨by kernel_rfl, fun w' hw => by go_simp⟩) hS hT ?_
      refine anyT_take (i := 8) (n := 8) (v := .slice b1 m1 k1) rfl (by decide) (by kernel_rfl) (by kernel_rfl) (by kernel_rfl) (fun _ _ _ h => h) (Or.inl ⟨by kernel_rfl, fun w' hw => by (obtain ⟨u1, u2, u3, u4, u5, u6⟩ := hw; go_simp)⟩) hS hT ?_
      refine anyT_take (i := 10) (n := 7) (v := .pointer (some ⟨w.heap.size, 2, none⟩)) rfl (by decide) (by kernel_rfl) (by kernel_rfl) (by kernel_rfl) (fun _ _ _ h => h) (Or.inl ⟨by kernel_rfl, fun w' hw => by go_simp⟩) hS hT ?_
      refine anyT_take (i := 11) (n := 6) (v := .slice a2 l2 c2) rfl (by decide) (by kernel_rfl) (by kernel_rfl) (by kernel_rfl) (fun _ _ _ h => h) (Or.inl ⟨by kernel_rfl, fun w' hw => by (obtain ⟨u1, u2, u3, u4, u5, u6⟩ := hw; go_simp)⟩) hS hT ?_
      refine anyT_take (i := 12) (n := 5) (v := .pointer (some ⟨w.heap.size + 1, 2, none⟩)) rfl (by decide) (by kernel_rfl) (by kernel_rfl) (by kernel_rfl) (fun _ _ _ h => h) (Or.inl ⟨by kernel_rfl, fun w' hw => by go_simp⟩) hS hT ?_
      refine anyT_take (i := 13) (n := 4) (v := .slice b2 m2 k2) rfl (by decide) (by kernel_rfl) (by kernel_rfl) (by kernel_rfl) (fun _ _ _ h => h) (Or.inl ⟨by kernel_rfl, fun w' hw => by (obtain ⟨u1, u2, u3, u4, u5, u6⟩ := hw; go_simp)⟩) hS hT ?_
      clear hsg hT
      refine anyK_all (n := 3) (rs := [9]) (by kernel_rfl) (by simp) (fun i hi => ?_)
      simp only [List.mem_cons, List.not_mem_nil, or_false] at hi
      obtain rfl := hi
      refine wpOp_step rfl (fun K' hK => ?_)
      go_simp
      refine (bigTimes_any N1 N2 a1 b1 l1 m1 c1 k1 wB.drew (by omega) (by omega) HBd.out.v1.n HBd.out.v2.n).mono ?_
      rintro e w6 ⟨e1, i1, d1, rfl, hb6, hc6, hbl6, hnw6⟩
      have H6 := Lib.hid (And.intro (HBd.out.all hbl6) (And.intro hb6 (And.intro hc6 (hnw6.le HBd.out.bel.size))))
      have HN6 := Lib.hid (hnw6.ne (b := w.heap.size + 1 + 1) HBd.out.z.lt)
      refine hK _ _ ⟨fun _ _ => trivial, ⟨H6.out.1.x.c0, H6.out.1.x.c1, H6.out.1.x.c2, H6.out.1.y.c0, H6.out.1.y.c1, H6.out.1.y.c2⟩, ?_⟩
      clear hK hb6 hc6 hbl6 hnw6 HBd HB
      refine anyK_all (n := 2) (rs := [14]) (by kernel_rfl) (by simp) (fun i hi => ?_)
      simp only [List.mem_cons, List.not_mem_nil, or_false] at hi
      obtain rfl := hi
      refine wpOp_step rfl (fun K' hK => ?_)
      go_simp
      refine (bigTimes_any D1 D2 a2 b2 l2 m2 c2 k2 w6 (by omega) (by omega) H6.out.1.v1.d H6.out.1.v2.d).mono ?_
      rintro e w7 ⟨e2, i2, d2, rfl, hb7, hc7, hbl7, hnw7⟩
      have H7 := Lib.hid (And.intro (H6.out.1.all hbl7) (And.intro hb7 (And.intro hc7 (And.intro (hnw7.le H6.out.1.bel.size) (H6.out.2.1.below hbl7)))))
      have HN7 := Lib.hid (hnw7.ne (b := w.heap.size + 1 + 1) H6.out.1.z.lt)
      have hT : w7.cell? ⟨w.heap.size, 0, none⟩ = some (.bool s1) ∧ w7.cell? ⟨w.heap.size, 1, none⟩ = some (.slice a1 l1 c1) ∧ w7.cell? ⟨w.heap.size, 2, none⟩ = some (.slice a2 l2 c2) ∧ w7.cell? ⟨w.heap.size + 1, 0, none⟩ = some (.bool s2) ∧ w7.cell? ⟨w.heap.size + 1, 1, none⟩ = some (.slice b1 m1 k1) ∧ w7.cell? ⟨w.heap.size + 1, 2, none⟩ = some (.slice b2 m2 k2) := ⟨H7.out.1.x.c0, H7.out.1.x.c1, H7.out.1.x.c2, H7.out.1.y.c0, H7.out.1.y.c1, H7.out.1.y.c2⟩
      refine hK _ _ ⟨fun _ _ => trivial, hT, ?_⟩
      clear hK hb7 hc7 hbl7 hnw7
      refine anyT_take (i := 15) (n := 1) (v := .agg #[.bool sg, .slice e1 d1 i1, .slice e2 d2 i2, .bool false, .int .i64 0, .int .i64 0]) rfl (by decide) (by kernel_rfl) (by kernel_rfl) (by kernel_rfl) (fun _ _ _ h => h) (Or.inl ⟨by kernel_rfl, fun w' hw => by go_simp⟩) hS hT ?_
      clear hT
      refine anyK_all (n := 0) (rs := [16]) (by kernel_rfl) (by simp) (fun i hi => ?_)
      simp only [List.mem_cons, List.not_mem_nil, or_false] at hi
      obtain rfl := hi
      obtain ⟨z0, z1, z2, z3, z4, z5, g0', g1', g2', g3', g4', g5', z6⟩ := H7.out.1.z
      have HF := Lib.hid (show WvI (put6 w7 (w.heap.size + 1 + 1) (.bool sg) (.slice e1 d1 i1) (.slice e2 d2 i2) (.bool false) (.int .i64 0) (.int .i64 0)) e1 e2 d1 i1 d2 i2 sg false 0 0 (N1 * N2) (D1 * D2) (r * s) from ⟨isBig_put H7.out.2.2.2.2 HN6.out _ _ _ _ _ _, isBig_put H7.out.2.1 HN7.out _ _ _ _ _ _, H6.out.2.2.1, H7.out.2.2.1, Nat.mul_ne_zero HP.out.2.2.2.2.1 HP.out.2.2.2.2.2, by rw [← HSG.out]; exact wide_mul_val HVL.out.1 HVL.out.2, fun h => by cases h⟩)
      have HBL := Lib.hid (put6_below H7.out.1.bel (by omega : w.heap.size ≤ w.heap.size + 1 + 1) (.bool sg) (.slice e1 d1 i1) (.slice e2 d2 i2) (.bool false) (.int .i64 0) (.int .i64 0))
      have HT2 := Lib.hid (show (put6 w7 (w.heap.size + 1 + 1) (.bool sg) (.slice e1 d1 i1) (.slice e2 d2 i2) (.bool false) (.int .i64 0) (.int .i64 0)).cell? ⟨w.heap.size, 0, none⟩ = some (.bool s1) ∧ (put6 w7 (w.heap.size + 1 + 1) (.bool sg) (.slice e1 d1 i1) (.slice e2 d2 i2) (.bool false) (.int .i64 0) (.int .i64 0)).cell? ⟨w.heap.size, 1, none⟩ = some (.slice a1 l1 c1) ∧ (put6 w7 (w.heap.size + 1 + 1) (.bool sg) (.slice e1 d1 i1) (.slice e2 d2 i2) (.bool false) (.int .i64 0) (.int .i64 0)).cell? ⟨w.heap.size, 2, none⟩ = some (.slice a2 l2 c2) ∧ (put6 w7 (w.heap.size + 1 + 1) (.bool sg) (.slice e1 d1 i1) (.slice e2 d2 i2) (.bool false) (.int .i64 0) (.int .i64 0)).cell? ⟨w.heap.size + 1, 0, none⟩ = some (.bool s2) ∧ (put6 w7 (w.heap.size + 1 + 1) (.bool sg) (.slice e1 d1 i1) (.slice e2 d2 i2) (.bool false) (.int .i64 0) (.int .i64 0)).cell? ⟨w.heap.size + 1, 1, none⟩ = some (.slice b1 m1 k1) ∧ (put6 w7 (w.heap.size + 1 + 1) (.bool sg) (.slice e1 d1 i1) (.slice e2 d2 i2) (.bool false) (.int .i64 0) (.int .i64 0)).cell? ⟨w.heap.size + 1, 2, none⟩ = some (.slice b2 m2 k2) from ⟨(put6_cell (by omega) ..).trans H7.out.1.x.c0, (put6_cell (by omega) ..).trans H7.out.1.x.c1, (put6_cell (by omega) ..).trans H7.out.1.x.c2, (put6_cell (by omega) ..).trans H7.out.1.y.c0, (put6_cell (by omega) ..).trans H7.out.1.y.c1, (put6_cell (by omega) ..).trans H7.out.1.y.c2⟩)
      refine wpOp_step rfl (fun K' hK => ?_)
      go_simp
      refine hK _ _ ⟨fun _ _ => trivial, HT2.out, ?_⟩
      clear hK
      refine ⟨by kernel_rfl, ?_⟩
      go_wp2_with fail
      refine bodyPost_ret (v := .agg #[.bool sg, .slice e1 d1 i1, .slice e2 d2 i2, .bool false, .int .i64 0, .int .i64 0]) (by simp [results, Tryz.results26, go_sem, *]) rfl ?_
      exact ⟨sg, e1, d1, i1, e2, d2, i2, false, 0, 0, (N1 * N2), (D1 * D2), rfl, HF.out, ⟨Nat.lt_of_lt_of_le (mul_bits HP.out.1 HP.out.2.2.1) (Nat.pow_le_pow_right (by omega) (by omega)), Nat.lt_of_lt_of_le (mul_bits HP.out.2.1 HP.out.2.2.2.1) (Nat.pow_le_pow_right (by omega) (by omega))⟩, ⟨H6.out.2.2.2, H7.out.2.2.2.1⟩, HBL.out⟩
    · go_enter Tryz.func26, Tryz.ntmps26
      go_wp2_with fail
      obtain ⟨wB, hwB⟩ : ∃ w', (((w.alloc (.cells #[.bool s1, .slice a1 l1 c1, .slice a2 l2 c2, .bool true, .int .i64 p1, .int .i64 q1] 55)).alloc (.cells #[.bool s2, .slice b1 m1 k1, .slice b2 m2 k2, .bool false, .int .i64 p2, .int .i64 q2] 55)).alloc (.cells #[.bool false, .slice none 0 0, .slice none 0 0, .bool false, .int .i64 0, .int .i64 0] 55)) = w' := ⟨_, rfl⟩
      have HB := Lib.hid H0.out
      rw [hwB] at HB
      rw [hwB]
      clear hwB H0
      have HBd := Lib.hid (HB.out.all (Below.refl _ wB).drew)
      obtain ⟨sg, hsg⟩ : ∃ sg, (s1 != s2) = sg := ⟨_, rfl⟩
      have HSG := Lib.hid hsg
      refine wp_region_any (by kernel_rfl) (any_of_K (k := 16) (S := fun w' => True) (T := fun w' => w'.cell? ⟨w.heap.size, 0, none⟩ = some (.bool s1) ∧ w'.cell? ⟨w.heap.size, 1, none⟩ = some (.slice a1 l1 c1) ∧ w'.cell? ⟨w.heap.size, 2, none⟩ = some (.slice a2 l2 c2) ∧ w'.cell? ⟨w.heap.size + 1, 0, none⟩ = some (.bool s2) ∧ w'.cell? ⟨w.heap.size + 1, 1, none⟩ = some (.slice b1 m1 k1) ∧ w'.cell? ⟨w.heap.size + 1, 2, none⟩ = some (.slice b2 m2 k2)) _ _ _ _ ?_)
      have hS : True := trivial
      have hT : wB.drew.cell? ⟨w.heap.size, 0, none⟩ = some (.bool s1) ∧ wB.drew.cell? ⟨w.heap.size, 1, none⟩ = some (.slice a1 l1 c1) ∧ wB.drew.cell? ⟨w.heap.size, 2, none⟩ = some (.slice a2 l2 c2) ∧ wB.drew.cell? ⟨w.heap.size + 1, 0, none⟩ = some (.bool s2) ∧ wB.drew.cell? ⟨w.heap.size + 1, 1, none⟩ = some (.slice b1 m1 k1) ∧ wB.drew.cell? ⟨w.heap.size + 1, 2, none⟩ = some (.slice b2 m2 k2) := ⟨HBd.out.x.c0, HBd.out.x.c1, HBd.out.x.c2, HBd.out.y.c0, HBd.out.y.c1, HBd.out.y.c2⟩
      refine anyT_take (i := 0) (n := 16) (v := .pointer (some ⟨w.heap.size, 0, none⟩)) rfl (by decide) (by kernel_rfl) (by kernel_rfl) (by kernel_rfl) (fun _ _ _ h => h) (Or.inl ⟨by kernel_rfl, fun w' hw => by go_simp⟩) hS hT ?_
      refine anyT_take (i := 1) (n := 15) (v := .bool s1) rfl (by decide) (by kernel_rfl) (by kernel_rfl) (by kernel_rfl) (fun _ _ _ h => h) (Or.inl ⟨by kernel_rfl, fun w' hw => by (obtain ⟨u1, u2, u3, u4, u5, u6⟩ := hw; go_simp)⟩) hS hT ?_
      refine anyT_take (i := 2) (n := 14) (v := .pointer (some ⟨w.heap.size + 1, 0, none⟩)) rfl (by decide) (by kernel_rfl) (by kernel_rfl) (by kernel_rfl) (fun _ _ _ h => h) (Or.inl ⟨by kernel_rfl, fun w' hw => by go_simp⟩) hS hT ?_
      refine anyT_take (i := 3) (n := 13) (v := .bool s2) rfl (by decide) (by kernel_rfl) (by kernel_rfl) (by kernel_rfl) (fun _ _ _ h => h) (Or.inl ⟨by kernel_rfl, fun w' hw => by (obtain ⟨u1, u2, u3, u4, u5, u6⟩ := hw; go_simp)⟩) hS hT ?_
      refine anyT_take (i := 4) (n := 12) (v := .bool sg) rfl (by decide) (by kernel_rfl) (by kernel_rfl) (by kernel_rfl) (fun _ _ _ h => h) (Or.inl ⟨by kernel_rfl, fun w' hw => by (go_simp; rw [← HSG.out]; cases s1 <;> cases s2 <;> rfl)⟩) hS hT ?_
      refine anyT_take (i := 5) (n := 11) (v := .pointer (some ⟨w.heap.size, 1, none⟩)) rfl (by decide) (by kernel_rfl) (by kernel_rfl) (by kernel_rfl) (fun _ _ _ h => h) (Or.inl ⟨by kernel_rfl, fun w' hw => by go_simp⟩) hS hT ?_
      refine anyT_take (i := 6) (n := 10) (v := .slice a1 l1 c1) rfl (by decide) (by kernel_rfl) (by kernel_rfl) (by kernel_rfl) (fun _ _ _ h => h) (Or.inl ⟨by kernel_rfl, fun w' hw => by (obtain ⟨u1, u2, u3, u4, u5, u6⟩ := hw; go_simp)⟩) hS hT ?_
      refine anyT_take (i := 7) (n := 9) (v := .pointer (some ⟨w.heap.size + 1, 1, none⟩)) rfl (by decide) (by kernel_rfl) (by kernel_rfl) (by kernel_rfl) (fun _ _ _ h => h) (Or.inl ⟨by kernel_rfl, fun w' hw => by go_simp⟩) hS hT ?_
      refine anyT_take (i := 8) (n := 8) (v := .slice b1 m1 k1) rfl (by decide) (by kernel_rfl) (by kernel_rfl) (by kernel_rfl) (fun _ _ _ h => h) (Or.inl ⟨by kernel_rfl, fun w' hw => by (obtain ⟨u1, u2, u3, u4, u5, u6⟩ := hw; go_simp)⟩) hS hT ?_
      refine anyT_take (i := 10) (n := 7) (v := .pointer (some ⟨w.heap.size, 2, none⟩)) rfl (by decide) (by kernel_rfl) (by kernel_rfl) (by kernel_rfl) (fun _ _ _ h => h) (Or.inl ⟨by kernel_rfl, fun w' hw => by go_simp⟩) hS hT ?_
      refine anyT_take (i := 11) (n := 6) (v := .slice a2 l2 c2) rfl (by decide) (by kernel_rfl) (by kernel_rfl) (by kernel_rfl) (fun _ _ _ h => h) (Or.inl ⟨by kernel_rfl, fun w' hw => by (obtain ⟨u1, u2, u3, u4, u5, u6⟩ := hw; go_simp)⟩) hS hT ?_
      refine anyT_take (i := 12) (n := 5) (v := .pointer (some ⟨w.heap.size + 1, 2, none⟩)) rfl (by decide) (by kernel_rfl) (by kernel_rfl) (by kernel_rfl) (fun _ _ _ h => h) (Or.inl ⟨by kernel_rfl, fun w' hw => by go_simp⟩) hS hT ?_
      refine anyT_take (i := 13) (n := 4) (v := .slice b2 m2 k2) rfl (by decide) (by kernel_rfl) (by kernel_rfl) (by kernel_rfl) (fun _ _ _ h => h) (Or.inl ⟨by kernel_rfl, fun w' hw => by (obtain ⟨u1, u2, u3, u4, u5, u6⟩ := hw; go_simp)⟩) hS hT ?_
      clear hsg hT
      refine anyK_all (n := 3) (rs := [9]) (by kernel_rfl) (by simp) (fun i hi => ?_)
      simp only [List.mem_cons, List.not_mem_nil, or_false] at hi
      obtain rfl := hi
      refine wpOp_step rfl (fun K' hK => ?_)
      go_simp
      refine (bigTimes_any N1 N2 a1 b1 l1 m1 c1 k1 wB.drew (by omega) (by omega) HBd.out.v1.n HBd.out.v2.n).mono ?_
      rintro e w6 ⟨e1, i1, d1, rfl, hb6, hc6, hbl6, hnw6⟩
      have H6 := Lib.hid (And.intro (HBd.out.all hbl6) (And.intro hb6 (And.intro hc6 (hnw6.le HBd.out.bel.size))))
      have HN6 := Lib.hid (hnw6.ne (b := w.heap.size + 1 + 1) HBd.out.z.lt)
      refine hK _ _ ⟨fun _ _ => trivial, ⟨H6.out.1.x.c0, H6.out.1.x.c1, H6.out.1.x.c2, H6.out.1.y.c0, H6.out.1.y.c1, H6.out.1.y.c2⟩, ?_⟩
      clear hK hb6 hc6 hbl6 hnw6 HBd HB
      refine anyK_all (n := 2) (rs := [14]) (by kernel_rfl) (by simp) (fun i hi => ?_)
      simp only [List.mem_cons, List.not_mem_nil, or_false] at hi
      obtain rfl := hi
      refine wpOp_step rfl (fun K' hK => ?_)
      go_simp
      refine (bigTimes_any D1 D2 a2 b2 l2 m2 c2 k2 w6 (by omega) (by omega) H6.out.1.v1.d H6.out.1.v2.d).mono ?_
      rintro e w7 ⟨e2, i2, d2, rfl, hb7, hc7, hbl7, hnw7⟩
      have H7 := Lib.hid (And.intro (H6.out.1.all hbl7) (And.intro hb7 (And.intro hc7 (And.intro (hnw7.le H6.out.1.bel.size) (H6.out.2.1.below hbl7)))))
      have HN7 := Lib.hid (hnw7.ne (b := w.heap.size + 1 + 1) H6.out.1.z.lt)
      have hT : w7.cell? ⟨w.heap.size, 0, none⟩ = some (.bool s1) ∧ w7.cell? ⟨w.heap.size, 1, none⟩ = some (.slice a1 l1 c1) ∧ w7.cell? ⟨w.heap.size, 2, none⟩ = some (.slice a2 l2 c2) ∧ w7.cell? ⟨w.heap.size + 1, 0, none⟩ = some (.bool s2) ∧ w7.cell? ⟨w.heap.size + 1, 1, none⟩ = some (.slice b1 m1 k1) ∧ w7.cell? ⟨w.heap.size + 1, 2, none⟩ = some (.slice b2 m2 k2) := ⟨H7.out.1.x.c0, H7.out.1.x.c1, H7.out.1.x.c2, H7.out.1.y.c0, H7.out.1.y.c1, H7.out.1.y.c2⟩
      refine hK _ _ ⟨fun _ _ => trivial, hT, ?_⟩
      clear hK hb7 hc7 hbl7 hnw7
      refine anyT_take (i := 15) (n := 1) (v := .agg #[.bool sg, .slice e1 d1 i1, .slice e2 d2 i2, .bool false, .int .i64 0, .int .i64 0]) rfl (by decide) (by kernel_rfl) (by kernel_rfl) (by kernel_rfl) (fun _ _ _ h => h) (Or.inl ⟨by kernel_rfl, fun w' hw => by go_simp⟩) hS hT ?_
      clear hT
      refine anyK_all (n := 0) (rs := [16]) (by kernel_rfl) (by simp) (fun i hi => ?_)
      simp only [List.mem_cons, List.not_mem_nil, or_false] at hi
      obtain rfl := hi
      obtain ⟨z0, z1, z2, z3, z4, z5, g0', g1', g2', g3', g4', g5', z6⟩ := H7.out.1.z
      have HF := Lib.hid (show WvI (put6 w7 (w.heap.size + 1 + 1) (.bool sg) (.slice e1 d1 i1) (.slice e2 d2 i2) (.bool false) (.int .i64 0) (.int .i64 0)) e1 e2 d1 i1 d2 i2 sg false 0 0 (N1 * N2) (D1 * D2) (r * s) from ⟨isBig_put H7.out.2.2.2.2 HN6.out _ _ _ _ _ _, isBig_put H7.out.2.1 HN7.out _ _ _ _ _ _, H6.out.2.2.1, H7.out.2.2.1, Nat.mul_ne_zero HP.out.2.2.2.2.1 HP.out.2.2.2.2.2, by rw [← HSG.out]; exact wide_mul_val HVL.out.1 HVL.out.2, fun h => by cases h⟩)
      have HBL := Lib.hid (put6_below H7.out.1.bel (by omega : w.heap.size ≤ w.heap.size + 1 + 1) (.bool sg) (.slice e1 d1 i1) (.slice e2 d2 i2) (.bool false) (.int .i64 0) (.int .i64 0))
      have HT2 := Lib.hid (show (put6 w7 (w.heap.size + 1 + 1) (.bool sg) (.slice e1 d1 i1) (.slice e2 d2 i2) (.bool false) (.int .i64 0) (.int .i64 0)).cell? ⟨w.heap.size, 0, none⟩ = some (.bool s1) ∧ (put6 w7 (w.heap.size + 1 + 1) (.bool sg) (.slice e1 d1 i1) (.slice e2 d2 i2) (.bool false) (.int .i64 0) (.int .i64 0)).cell? ⟨w.heap.size, 1, none⟩ = some (.slice a1 l1 c1) ∧ (put6 w7 (w.heap.size + 1 + 1) (.bool sg) (.slice e1 d1 i1) (.slice e2 d2 i2) (.bool false) (.int .i64 0) (.int .i64 0)).cell? ⟨w.heap.size, 2, none⟩ = some (.slice a2 l2 c2) ∧ (put6 w7 (w.heap.size + 1 + 1) (.bool sg) (.slice e1 d1 i1) (.slice e2 d2 i2) (.bool false) (.int .i64 0) (.int .i64 0)).cell? ⟨w.heap.size + 1, 0, none⟩ = some (.bool s2) ∧ (put6 w7 (w.heap.size + 1 + 1) (.bool sg) (.slice e1 d1 i1) (.slice e2 d2 i2) (.bool false) (.int .i64 0) (.int .i64 0)).cell? ⟨w.heap.size + 1, 1, none⟩ = some (.slice b1 m1 k1) ∧ (put6 w7 (w.heap.size + 1 + 1) (.bool sg) (.slice e1 d1 i1) (.slice e2 d2 i2) (.bool false) (.int .i64 0) (.int .i64 0)).cell? ⟨w.heap.size + 1, 2, none⟩ = some (.slice b2 m2 k2) from ⟨(put6_cell (by omega) ..).trans H7.out.1.x.c0, (put6_cell (by omega) ..).trans H7.out.1.x.c1, (put6_cell (by omega) ..).trans H7.out.1.x.c2, (put6_cell (by omega) ..).trans H7.out.1.y.c0, (put6_cell (by omega) ..).trans H7.out.1.y.c1, (put6_cell (by omega) ..).trans H7.out.1.y.c2⟩)
      refine wpOp_step rfl (fun K' hK => ?_)
      go_simp
      refine hK _ _ ⟨fun _ _ => trivial, HT2.out, ?_⟩
      clear hK
      refine ⟨by kernel_rfl, ?_⟩
      go_wp2_with fail
      refine bodyPost_ret (v := .agg #[.bool sg, .slice e1 d1 i1, .slice e2 d2 i2, .bool false, .int .i64 0, .int .i64 0]) (by simp [results, Tryz.results26, go_sem, *]) rfl ?_
      exact ⟨sg, e1, d1, i1, e2, d2, i2, false, 0, 0, (N1 * N2), (D1 * D2), rfl, HF.out, ⟨Nat.lt_of_lt_of_le (mul_bits HP.out.1 HP.out.2.2.1) (Nat.pow_le_pow_right (by omega) (by omega)), Nat.lt_of_lt_of_le (mul_bits HP.out.2.1 HP.out.2.2.2.1) (Nat.pow_le_pow_right (by omega) (by omega))⟩, ⟨H6.out.2.2.2, H7.out.2.2.2.1⟩, HBL.out⟩
end B30
end Go.Proofs.YtaneocedklnajaaGreat
/- The reference's fractions of any size: sums. No condition but bounds. -/
namespace Go.Proofs.YtaneocedklnajaaGreat
open Go.RowKit
set_option linter.unusedVariables false
namespace B30

theorem add_bits {X Y a b c : Nat} (h1 : X < 2 ^ a) (h2 : Y < 2 ^ b) (hc : a + 1 ≤ c) (hab : b = a) : X + Y < 2 ^ c ∧ X - Y < 2 ^ c ∧ Y - X < 2 ^ c := by
  subst hab
  have h3 : (2 : Nat) ^ (b + 1) = 2 ^ b * 2 := Nat.pow_succ ..
  have h4 : (2 : Nat) ^ (b + 1) ≤ 2 ^ c := Nat.pow_le_pow_right (by omega) hc
  refine ⟨by omega, by omega, by omega⟩
set_option maxRecDepth 20000 in
set_option maxHeartbeats 6400000 in
theorem wideAdd_any (s1 s2 f1 f2 : Bool) (a1 a2 b1 b2 : Option Addr) (l1 c1 l2 c2 m1 k1 m2 k2 : Nat) (p1 q1 p2 q2 : Int) (N1 D1 N2 D2 x y : Nat) (r s : Rat) (w : World) (h1 : WvI w a1 a2 l1 c1 l2 c2 s1 f1 p1 q1 N1 D1 r) (h2 : WvI w b1 b2 m1 k1 m2 k2 s2 f2 p2 q2 N2 D2 s)
    (hx1 : N1 < 2 ^ x) (hx2 : D1 < 2 ^ x) (hy1 : N2 < 2 ^ y) (hy2 : D2 < 2 ^ y) (hx : x ≤ 3000000) (hy : y ≤ 3000000) :
    Calls Tryz.prog 106 #[.agg #[.bool s1, .slice a1 l1 c1, .slice a2 l2 c2, .bool f1, .int .i64 p1, .int .i64 q1], .agg #[.bool s2, .slice b1 m1 k1, .slice b2 m2 k2, .bool f2, .int .i64 p2, .int .i64 q2]] w (RetWide w w.heap.size (r + s) (x + y + 61)) := by
  have hl1 := big_lt (k := 100000) h1.n hx1 (by omega)
  have hl2 := big_lt (k := 100000) h1.d hx2 (by omega)
  have hl3 := big_lt (k := 100000) h2.n hy1 (by omega)
  have hl4 := big_lt (k := 100000) h2.d hy2 (by omega)
  have hA := three_boxes6 w (.cells #[.bool s1, .slice a1 l1 c1, .slice a2 l2 c2, .bool f1, .int .i64 p1, .int .i64 q1] 55) (.cells #[.bool s2, .slice b1 m1 k1, .slice b2 m2 k2, .bool f2, .int .i64 p2, .int .i64 q2] 55) (.cells #[.bool false, .slice none 0 0, .slice none 0 0, .bool false, .int .i64 0, .int .i64 0] 55)
  obtain ⟨t0, t1, t2⟩ := three_boxes w (.cells #[.bool s1, .slice a1 l1 c1, .slice a2 l2 c2, .bool f1, .int .i64 p1, .int .i64 q1] 55) (.cells #[.bool s2, .slice b1 m1 k1, .slice b2 m2 k2, .bool f2, .int .i64 p2, .int .i64 q2] 55) (.cells #[.bool false, .slice none 0 0, .slice none 0 0, .bool false, .int .i64 0, .int .i64 0] 55)
  have H0 := Lib.hid (show W2 w s1 s2 f1 f2 a1 a2 b1 b2 l1 c1 l2 c2 m1 k1 m2 k2 p1 q1 p2 q2 N1 D1 N2 D2 r s (((w.alloc (.cells #[.bool s1, .slice a1 l1 c1, .slice a2 l2 c2, .bool f1, .int .i64 p1, .int .i64 q1] 55)).alloc (.cells #[.bool s2, .slice b1 m1 k1, .slice b2 m2 k2, .bool f2, .int .i64 p2, .int .i64 q2] 55)).alloc (.cells #[.bool false, .slice none 0 0, .slice none 0 0, .bool false, .int .i64 0, .int .i64 0] 55)) from ⟨C6.of_heap t0, C6.of_heap t1, C6.of_heap t2, h1.below hA, h2.below hA, hA⟩)
  have HP := Lib.hid (And.intro hx1 (And.intro hx2 (And.intro hy1 (And.intro hy2 (And.intro h1.pos h2.pos)))))
  have HVL := Lib.hid (And.intro h1.val h2.val)
  have HFN := Lib.hid (And.intro h1.fin h2.fin)
  clear t0 t1 t2 hA h1 h2 hx1 hx2 hy1 hy2
  by_cases hff : f1 = true ∧ f2 = true
  · obtain ⟨rfl, rfl⟩ := hff
    obtain ⟨hv1, hr1, _⟩ := HFN.out.1 rfl
    obtain ⟨hv2, hr2, _⟩ := HFN.out.2 rfl
    have HC := Lib.hid (fun w => fadd_v p1 p2 q1 q2 w hv1 hv2)
    rw [hr1, hr2] at HC
    clear hr1 hr2 hv1 hv2
    cases hfit : fitR (r + s) with
    | true =>
      rw [fracV_yes hfit] at HC
      have HW := Lib.hid (fun w => wideOf_any (r + s).num ((r + s).den : Int) w (vF_fit hfit))
      rw [Int.toNat_natCast, mk_self] at HW
      clear hfit
      go_enter Tryz.func106, Tryz.ntmps106
      obtain ⟨x0, x1, x2, x3, x4, x5, _, _, _, _, _, _, x6⟩ := H0.out.x
      obtain ⟨y0, y1, y2, y3, y4, y5, _, _, _, _, _, _, y6⟩ := H0.out.y
      go_wp2_with fail
      refine (HC.out _).mono ?_
      rintro e w1 ⟨rfl, hb1⟩
      have hb2 : Below w1.heap.size w1 (w1.alloc (.cells #[.int .i64 (r + s).num, .int .i64 ((r + s).den : Nat)] 40)) := (Below.refl _ _).alloc (Nat.le_refl _) _
      have H1 := Lib.hid ((H0.out.all hb1).all hb2)
      clear hb1 hb2 x0 x1 x2 x3 x4 x5 x6 y0 y1 y2 y3 y4 y5 y6
      go_wp2_with fail
      refine (HW.out _).mono ?_
      rintro e w2 ⟨sg, e1, d1, g1, e2, d2, g2, fine, pp, qq, N, D, rfl, hv, hbd, hnw, hb2⟩
      have H2 := Lib.hid (And.intro (H1.out.all hb2) (And.intro hv (And.intro hbd (And.intro hnw H1.out.z.lt))))
      clear hv hbd hnw hb2 H1
      obtain ⟨z0, z1, z2, z3, z4, z5, g0', g1', g2', g3', g4', g5', z6⟩ := H2.out.1.z
      go_wp2_with fail
      refine bodyPost_ret (v := .agg #[.bool sg, .slice e1 d1 g1, .slice e2 d2 g2, .bool fine, .int .i64 pp, .int .i64 qq]) (by simp [results, Tryz.results106, go_sem, *]) rfl ?_
      have hlt := H2.out.2.2.2.2
      have hlt2 : w.heap.size + 1 + 1 < w1.heap.size + 1 := by rw [alloc_size] at hlt; exact hlt
      have hw1 : w.heap.size ≤ w1.heap.size + 1 := by omega
      have hn1 := H2.out.2.2.2.1.1
      have hn2 := H2.out.2.2.2.1.2
      rw [alloc_size] at hn1 hn2
      exact ⟨sg, e1, d1, g1, e2, d2, g2, fine, pp, qq, N, D, rfl,
        ⟨isBig_put H2.out.2.1.n (hn1.ne hlt2) _ _ _ _ _ _, isBig_put H2.out.2.1.d (hn2.ne hlt2) _ _ _ _ _ _, H2.out.2.1.cn, H2.out.2.1.cd, H2.out.2.1.pos, H2.out.2.1.val, H2.out.2.1.fin⟩,
        ⟨Nat.lt_of_lt_of_le H2.out.2.2.1.1 (Nat.pow_le_pow_right (by omega) (by omega)), Nat.lt_of_lt_of_le H2.out.2.2.1.2 (Nat.pow_le_pow_right (by omega) (by omega))⟩, ⟨hn1.le hw1, hn2.le hw1⟩, put6_below H2.out.1.bel (by omega) _ _ _ _ _ _⟩
    | false =>
      rw [fracV_no hfit] at HC
      clear hfit
      go_enter Tryz.func106, Tryz.ntmps106
      obtain ⟨x0, x1, x2, x3, x4, x5, _, _, _, _, _, _, x6⟩ := H0.out.x
      obtain ⟨y0, y1, y2, y3, y4, y5, _, _, _, _, _, _, y6⟩ := H0.out.y
      go_wp2_with fail
      refine (HC.out _).mono ?_
      rintro e w1 ⟨rfl, hb1⟩
      have hb2 : Below w1.heap.size w1 (w1.alloc (.cells #[.int .i64 0, .int .i64 0] 40)) := (Below.refl _ _).alloc (Nat.le_refl _) _
      have H1 := Lib.hid ((H0.out.all hb1).all hb2)
      clear hb1 hb2 x0 x1 x2 x3 x4 x5 x6 y0 y1 y2 y3 y4 y5 y6
      go_upto_region 5 with fail
      obtain ⟨wB, hwB⟩ : ∃ w', w1.alloc (.cells #[.int .i64 0, .int .i64 0] 40) = w' := ⟨_, rfl⟩
      have HB := Lib.hid H1.out
      rw [hwB] at HB
      rw [hwB]
      clear hwB H1 H0
      obtain ⟨x0, x1, x2, x3, x4, x5, _, _, _, _, _, _, x6⟩ := HB.out.x
      obtain ⟨y0, y1, y2, y3, y4, y5, _, _, _, _, _, _, y6⟩ := HB.out.y
      go_wp2_with fail
      refine (bigTimes_any N1 D2 a1 b2 l1 m2 c1 k2 wB (by omega) (by omega) HB.out.v1.n HB.out.v2.d).mono ?_
      rintro e w4 ⟨x7, c7, l7, rfl, hb7, hc7, hbl7, hnw7⟩
      have hl7 := big_lt (k := 200000) hb7 (mul_bits HP.out.1 HP.out.2.2.2.1) (by omega)
      have H4 := Lib.hid (And.intro (HB.out.all hbl7) hb7)
      clear hb7 hbl7 hnw7 x0 x1 x2 x3 x4 x5 x6 y0 y1 y2 y3 y4 y5 y6 HB
      obtain ⟨x0, x1, x2, x3, x4, x5, _, _, _, _, _, _, x6⟩ := H4.out.1.x
      obtain ⟨y0, y1, y2, y3, y4, y5, _, _, _, _, _, _, y6⟩ := H4.out.1.y
      go_wp2_with fail
      refine (bigTimes_any N2 D1 b1 a2 m1 l2 k1 c2 w4 (by omega) (by omega) H4.out.1.v2.n H4.out.1.v1.d).mono ?_
      rintro e w5 ⟨x8, c8, l8, rfl, hb8, hc8, hbl8, hnw8⟩
      have hl8 := big_lt (k := 200000) hb8 (mul_bits HP.out.2.2.1 HP.out.2.1) (by omega)
      have H5 := Lib.hid (And.intro (H4.out.1.all hbl8) (And.intro (H4.out.2.below hbl8) hb8))
      clear hb8 hbl8 hnw8 x0 x1 x2 x3 x4 x5 x6 y0 y1 y2 y3 y4 y5 y6 H4
      obtain ⟨x0, x1, x2, x3, x4, x5, _, _, _, _, _, _, x6⟩ := H5.out.1.x
      obtain ⟨y0, y1, y2, y3, y4, y5, _, _, _, _, _, _, y6⟩ := H5.out.1.y
      go_wp2_with fail
      refine (bigTimes_any D1 D2 a2 b2 l2 m2 c2 k2 w5 (by omega) (by omega) H5.out.1.v1.d H5.out.1.v2.d).mono ?_
      rintro e wC ⟨e2, i2, d2, rfl, hb9, hc9, hbl9, hnw9⟩
      have HN6 := Lib.hid (hnw9.ne (b := w.heap.size + 1 + 1) H5.out.1.z.lt)
      have H6n := Lib.hid (hnw9.le H5.out.1.bel.size)
      have H6c := Lib.hid hc9
      have HZ := Lib.hid (And.intro (H5.out.1.all hbl9) (And.intro (H5.out.2.1.below hbl9) (And.intro (H5.out.2.2.below hbl9) hb9)))
      clear hb9 hbl9 hnw9 hc9 x0 x1 x2 x3 x4 x5 x6 y0 y1 y2 y3 y4 y5 y6 H5
      obtain ⟨x0, x1, x2, x3, x4, x5, _, _, _, _, _, _, x6⟩ := HZ.out.1.x
      obtain ⟨y0, y1, y2, y3, y4, y5, _, _, _, _, _, _, y6⟩ := HZ.out.1.y
      have HVA := Lib.hid (wide_add_val HP.out.2.2.2.2.1 HP.out.2.2.2.2.2 HVL.out.1 HVL.out.2)
      have HBX := Lib.hid (add_bits (mul_bits HP.out.1 HP.out.2.2.2.1) (mul_bits HP.out.2.2.1 HP.out.2.1) (show x + y + 1 ≤ x + y + 61 by omega) (show y + x = x + y by omega))
      by_cases hs : s1 = s2
      · subst hs
        go_wp2_with fail
        clear x0 x1 x2 x3 x4 x5 x6 y0 y1 y2 y3 y4 y5 y6
        have HZd := Lib.hid (And.intro (HZ.out.1.all (Below.refl _ wC).drew) (And.intro (HZ.out.2.1.below (Below.refl _ wC).drew) (And.intro (HZ.out.2.2.1.below (Below.refl _ wC).drew) (HZ.out.2.2.2.below (Below.refl _ wC).drew))))
        refine wp_region_any (by kernel_rfl) (any_of_K (k := 7) (S := fun w' => True) (T := fun w' => w'.cell? ⟨w.heap.size, 0, none⟩ = some (.bool s1) ∧ w'.cell? ⟨w.heap.size, 1, none⟩ = some (.slice a1 l1 c1) ∧ w'.cell? ⟨w.heap.size, 2, none⟩ = some (.slice a2 l2 c2) ∧ w'.cell? ⟨w.heap.size + 1, 0, none⟩ = some (.bool s1) ∧ w'.cell? ⟨w.heap.size + 1, 1, none⟩ = some (.slice b1 m1 k1) ∧ w'.cell? ⟨w.heap.size + 1, 2, none⟩ = some (.slice b2 m2 k2)) _ _ _ _ ?_)
        have hS : True := trivial
        have hT : wC.drew.cell? ⟨w.heap.size, 0, none⟩ = some (.bool s1) ∧ wC.drew.cell? ⟨w.heap.size, 1, none⟩ = some (.slice a1 l1 c1) ∧ wC.drew.cell? ⟨w.heap.size, 2, none⟩ = some (.slice a2 l2 c2) ∧ wC.drew.cell? ⟨w.heap.size + 1, 0, none⟩ = some (.bool s1) ∧ wC.drew.cell? ⟨w.heap.size + 1, 1, none⟩ = some (.slice b1 m1 k1) ∧ wC.drew.cell? ⟨w.heap.size + 1, 2, none⟩ = some (.slice b2 m2 k2) := ⟨HZd.out.1.x.c0, HZd.out.1.x.c1, HZd.out.1.x.c2, HZd.out.1.y.c0, HZd.out.1.y.c1, HZd.out.1.y.c2⟩
        refine anyT_take (i := 0) (n := 7) (v := .pointer (some ⟨w.heap.size, 0, none⟩)) rfl (by decide) (by kernel_rfl) (by kernel_rfl) (by kernel_rfl) (fun _ _ _ h => h) (Or.inl ⟨by kernel_rfl, fun w' hw => by go_simp⟩) hS hT ?_
        refine anyT_take (i := 1) (n := 6) (v := .bool s1) rfl (by decide) (by kernel_rfl) (by kernel_rfl) (by kernel_rfl) (fun _ _ _ h => h) (Or.inl ⟨by kernel_rfl, fun w' hw => by (obtain ⟨u1, u2, u3, u4, u5, u6⟩ := hw; go_simp)⟩) hS hT ?_
        refine anyT_take (i := 2) (n := 5) (v := .slice x7 l7 c7) rfl (by decide) (by kernel_rfl) (by kernel_rfl) (by kernel_rfl) (fun _ _ _ h => h) (Or.inl ⟨by kernel_rfl, fun w' hw => by go_simp⟩) hS hT ?_
        refine anyT_take (i := 3) (n := 4) (v := .slice x8 l8 c8) rfl (by decide) (by kernel_rfl) (by kernel_rfl) (by kernel_rfl) (fun _ _ _ h => h) (Or.inl ⟨by kernel_rfl, fun w' hw => by go_simp⟩) hS hT ?_
        refine anyT_take (i := 5) (n := 3) (v := .slice e2 d2 i2) rfl (by decide) (by kernel_rfl) (by kernel_rfl) (by kernel_rfl) (fun _ _ _ h => h) (Or.inl ⟨by kernel_rfl, fun w' hw => by go_simp⟩) hS hT ?_
        clear hT
        refine anyK_all (n := 2) (rs := [4]) (by kernel_rfl) (by simp) (fun i hi => ?_)
        simp only [List.mem_cons, List.not_mem_nil, or_false] at hi
        obtain rfl := hi
        refine wpOp_step rfl (fun K' hK => ?_)
        go_simp
        refine (bigPlus_any (N1 * D2) (N2 * D1) x7 x8 l7 l8 c7 c8 wC.drew (by omega) (by omega) HZd.out.2.1 HZd.out.2.2.1).mono ?_
        rintro e w7 ⟨e1, i1, d1, rfl, hb7, hc7, hbl7, hnw7⟩
        have H7 := Lib.hid (And.intro (HZd.out.1.all hbl7) (And.intro hb7 (And.intro hc7 (And.intro (hnw7.le HZd.out.1.bel.size) (HZd.out.2.2.2.below hbl7)))))
        have HN7 := Lib.hid (hnw7.ne (b := w.heap.size + 1 + 1) HZd.out.1.z.lt)
        have hT : w7.cell? ⟨w.heap.size, 0, none⟩ = some (.bool s1) ∧ w7.cell? ⟨w.heap.size, 1, none⟩ = some (.slice a1 l1 c1) ∧ w7.cell? ⟨w.heap.size, 2, none⟩ = some (.slice a2 l2 c2) ∧ w7.cell? ⟨w.heap.size + 1, 0, none⟩ = some (.bool s1) ∧ w7.cell? ⟨w.heap.size + 1, 1, none⟩ = some (.slice b1 m1 k1) ∧ w7.cell? ⟨w.heap.size + 1, 2, none⟩ = some (.slice b2 m2 k2) := ⟨H7.out.1.x.c0, H7.out.1.x.c1, H7.out.1.x.c2, H7.out.1.y.c0, H7.out.1.y.c1, H7.out.1.y.c2⟩
        refine hK _ _ ⟨fun _ _ => trivial, hT, ?_⟩
        clear hK hb7 hc7 hbl7 hnw7 HZd HZ
        refine anyT_take (i := 6) (n := 1) (v := .agg #[.bool s1, .slice e1 d1 i1, .slice e2 d2 i2, .bool false, .int .i64 0, .int .i64 0]) rfl (by decide) (by kernel_rfl) (by kernel_rfl) (by kernel_rfl) (fun _ _ _ h => h) (Or.inl ⟨by kernel_rfl, fun w' hw => by go_simp⟩) hS hT ?_
        clear hT
        refine anyK_all (n := 0) (rs := [7]) (by kernel_rfl) (by simp) (fun i hi => ?_)
        simp only [List.mem_cons, List.not_mem_nil, or_false] at hi
        obtain rfl := hi
        obtain ⟨z0, z1, z2, z3, z4, z5, g0', g1', g2', g3', g4', g5', z6⟩ := H7.out.1.z
        have HF := Lib.hid (show WvI (put6 w7 (w.heap.size + 1 + 1) (.bool s1) (.slice e1 d1 i1) (.slice e2 d2 i2) (.bool false) (.int .i64 0) (.int .i64 0)) e1 e2 d1 i1 d2 i2 s1 false 0 0 (N1 * D2 + N2 * D1) (D1 * D2) (r + s) from ⟨isBig_put H7.out.2.1 HN7.out _ _ _ _ _ _, isBig_put H7.out.2.2.2.2 HN6.out _ _ _ _ _ _, H7.out.2.2.1, H6c.out, Nat.mul_ne_zero HP.out.2.2.2.2.1 HP.out.2.2.2.2.2, by rw [wide_add_same]; exact HVA.out, fun h => by cases h⟩)
        have HBL := Lib.hid (put6_below H7.out.1.bel (by omega : w.heap.size ≤ w.heap.size + 1 + 1) (.bool s1) (.slice e1 d1 i1) (.slice e2 d2 i2) (.bool false) (.int .i64 0) (.int .i64 0))
        have HT2 := Lib.hid (show (put6 w7 (w.heap.size + 1 + 1) (.bool s1) (.slice e1 d1 i1) (.slice e2 d2 i2) (.bool false) (.int .i64 0) (.int .i64 0)).cell? ⟨w.heap.size, 0, none⟩ = some (.bool s1) ∧ (put6 w7 (w.heap.size + 1 + 1) (.bool s1) (.slice e1 d1 i1) (.slice e2 d2 i2) (.bool false) (.int .i64 0) (.int .i64 0)).cell? ⟨w.heap.size, 1, none⟩ = some (.slice a1 l1 c1) ∧ (put6 w7 (w.heap.size + 1 + 1) (.bool s1) (.slice e1 d1 i1) (.slice e2 d2 i2) (.bool false) (.int .i64 0) (.int .i64 0)).cell? ⟨w.heap.size, 2, none⟩ = some (.slice a2 l2 c2) ∧ (put6 w7 (w.heap.size + 1 + 1) (.bool s1) (.slice e1 d1 i1) (.slice e2 d2 i2) (.bool false) (.int .i64 0) (.int .i64 0)).cell? ⟨w.heap.size + 1, 0, none⟩ = some (.bool s1) ∧ (put6 w7 (w.heap.size + 1 + 1) (.bool s1) (.slice e1 d1 i1) (.slice e2 d2 i2) (.bool false) (.int .i64 0) (.int .i64 0)).cell? ⟨w.heap.size + 1, 1, none⟩ = some (.slice b1 m1 k1) ∧ (put6 w7 (w.heap.size + 1 + 1) (.bool s1) (.slice e1 d1 i1) (.slice e2 d2 i2) (.bool false) (.int .i64 0) (.int .i64 0)).cell? ⟨w.heap.size + 1, 2, none⟩ = some (.slice b2 m2 k2) from ⟨(put6_cell (by omega) ..).trans H7.out.1.x.c0, (put6_cell (by omega) ..).trans H7.out.1.x.c1, (put6_cell (by omega) ..).trans H7.out.1.x.c2, (put6_cell (by omega) ..).trans H7.out.1.y.c0, (put6_cell (by omega) ..).trans H7.out.1.y.c1, (put6_cell (by omega) ..).trans H7.out.1.y.c2⟩)
        refine wpOp_step rfl (fun K' hK => ?_)
        go_simp
        refine hK _ _ ⟨fun _ _ => trivial, HT2.out, ?_⟩
        clear hK
        refine ⟨by kernel_rfl, ?_⟩
        go_wp2_with fail
        refine bodyPost_ret (v := .agg #[.bool s1, .slice e1 d1 i1, .slice e2 d2 i2, .bool false, .int .i64 0, .int .i64 0]) (by simp [results, Tryz.results106, go_sem, *]) rfl ?_
        exact ⟨s1, e1, d1, i1, e2, d2, i2, false, 0, 0, (N1 * D2 + N2 * D1), (D1 * D2), rfl, HF.out, ⟨HBX.out.1, Nat.lt_of_lt_of_le (mul_bits HP.out.2.1 HP.out.2.2.2.1) (Nat.pow_le_pow_right (by omega) (by omega))⟩, ⟨H7.out.2.2.2.1, H6n.out⟩, HBL.out⟩
      · have hse : (s1 == s2) = false := by rw [beq_eq_false_iff_ne]; exact hs
        have HNE := Lib.hid hs
        clear hs
        by_cases hlt : N1 * D2 < N2 * D1
        · have HLT := Lib.hid hlt
          have HCM := Lib.hid (bigCmp_any (N1 * D2) (N2 * D1) x7 x8 l7 l8 c7 c8 wC (by omega) (by omega) HZ.out.2.1 HZ.out.2.2.1)
          obtain ⟨zz, hzz⟩ : ∃ z, cmpN (N1 * D2) (N2 * D1) = z := ⟨_, rfl⟩
          have hz0 : zz < (0:Int) := by rw [← hzz]; unfold cmpN; rw [if_pos hlt]; omega
          rw [hzz] at HCM
          clear hzz hlt
          go_wp2_with fail
          refine HCM.out.mono ?_
          rintro e wD ⟨rfl, hbD⟩
          have HZ2 := Lib.hid (And.intro (HZ.out.1.all hbD) (And.intro (HZ.out.2.1.below hbD) (And.intro (HZ.out.2.2.1.below hbD) (HZ.out.2.2.2.below hbD))))
          clear hbD HZ HCM x0 x1 x2 x3 x4 x5 x6 y0 y1 y2 y3 y4 y5 y6
          go_wp2_with fail
          have HZd := Lib.hid (And.intro (HZ2.out.1.all (Below.refl _ wD).drew) (And.intro (HZ2.out.2.1.below (Below.refl _ wD).drew) (And.intro (HZ2.out.2.2.1.below (Below.refl _ wD).drew) (HZ2.out.2.2.2.below (Below.refl _ wD).drew))))
          refine wp_region_any (by kernel_rfl) (any_of_K (k := 7) (S := fun w' => True) (T := fun w' => w'.cell? ⟨w.heap.size, 0, none⟩ = some (.bool s1) ∧ w'.cell? ⟨w.heap.size, 1, none⟩ = some (.slice a1 l1 c1) ∧ w'.cell? ⟨w.heap.size, 2, none⟩ = some (.slice a2 l2 c2) ∧ w'.cell? ⟨w.heap.size + 1, 0, none⟩ = some (.bool s2) ∧ w'.cell? ⟨w.heap.size + 1, 1, none⟩ = some (.slice b1 m1 k1) ∧ w'.cell? ⟨w.heap.size + 1, 2, none⟩ = some (.slice b2 m2 k2)) _ _ _ _ ?_)
          have hS : True := trivial
          have hT : wD.drew.cell? ⟨w.heap.size, 0, none⟩ = some (.bool s1) ∧ wD.drew.cell? ⟨w.heap.size, 1, none⟩ = some (.slice a1 l1 c1) ∧ wD.drew.cell? ⟨w.heap.size, 2, none⟩ = some (.slice a2 l2 c2) ∧ wD.drew.cell? ⟨w.heap.size + 1, 0, none⟩ = some (.bool s2) ∧ wD.drew.cell? ⟨w.heap.size + 1, 1, none⟩ = some (.slice b1 m1 k1) ∧ wD.drew.cell? ⟨w.heap.size + 1, 2, none⟩ = some (.slice b2 m2 k2) := ⟨HZd.out.1.x.c0, HZd.out.1.x.c1, HZd.out.1.x.c2, HZd.out.1.y.c0, HZd.out.1.y.c1, HZd.out.1.y.c2⟩
          refine anyT_take (i := 0) (n := 7) (v := .pointer (some ⟨w.heap.size + 1, 0, none⟩)) rfl (by decide) (by kernel_rfl) (by kernel_rfl) (by kernel_rfl) (fun _ _ _ h => h) (Or.inl ⟨by kernel_rfl, fun w' hw => by go_simp⟩) hS hT ?_
          refine anyT_take (i := 1) (n := 6) (v := .bool s2) rfl (by decide) (by kernel_rfl) (by kernel_rfl) (by kernel_rfl) (fun _ _ _ h => h) (Or.inl ⟨by kernel_rfl, fun w' hw => by (obtain ⟨u1, u2, u3, u4, u5, u6⟩ := hw; go_simp)⟩) hS hT ?_
          refine anyT_take (i := 2) (n := 5) (v := .slice x8 l8 c8) rfl (by decide) (by kernel_rfl) (by kernel_rfl) (by kernel_rfl) (fun _ _ _ h => h) (Or.inl ⟨by kernel_rfl, fun w' hw => by go_simp⟩) hS hT ?_
          refine anyT_take (i := 3) (n := 4) (v := .slice x7 l7 c7) rfl (by decide) (by kernel_rfl) (by kernel_rfl) (by kernel_rfl) (fun _ _ _ h => h) (Or.inl ⟨by kernel_rfl, fun w' hw => by go_simp⟩) hS hT ?_
          refine anyT_take (i := 5) (n := 3) (v := .slice e2 d2 i2) rfl (by decide) (by kernel_rfl) (by kernel_rfl) (by kernel_rfl) (fun _ _ _ h => h) (Or.inl ⟨by kernel_rfl, fun w' hw => by go_simp⟩) hS hT ?_
          clear hT
          refine anyK_all (n := 2) (rs := [4]) (by kernel_rfl) (by simp) (fun i hi => ?_)
          simp only [List.mem_cons, List.not_mem_nil, or_false] at hi
          obtain rfl := hi
          refine wpOp_step rfl (fun K' hK => ?_)
          go_simp
          refine (bigMinus_any (N2 * D1) (N1 * D2) x8 x7 l8 l7 c8 c7 wD.drew (by omega) (Nat.le_of_lt HLT.out) HZd.out.2.2.1 HZd.out.2.1).mono ?_
          rintro e w7 ⟨e1, i1, d1, rfl, hb7, hc7, hbl7, hnw7⟩
          have H7 := Lib.hid (And.intro (HZd.out.1.all hbl7) (And.intro hb7 (And.intro hc7 (And.intro (hnw7.le HZd.out.1.bel.size) (HZd.out.2.2.2.below hbl7)))))
          have HN7 := Lib.hid (hnw7.ne (b := w.heap.size + 1 + 1) HZd.out.1.z.lt)
          have hT : w7.cell? ⟨w.heap.size, 0, none⟩ = some (.bool s1) ∧ w7.cell? ⟨w.heap.size, 1, none⟩ = some (.slice a1 l1 c1) ∧ w7.cell? ⟨w.heap.size, 2, none⟩ = some (.slice a2 l2 c2) ∧ w7.cell? ⟨w.heap.size + 1, 0, none⟩ = some (.bool s2) ∧ w7.cell? ⟨w.heap.size + 1, 1, none⟩ = some (.slice b1 m1 k1) ∧ w7.cell? ⟨w.heap.size + 1, 2, none⟩ = some (.slice b2 m2 k2) := ⟨H7.out.1.x.c0, H7.out.1.x.c1, H7.out.1.x.c2, H7.out.1.y.c0, H7.out.1.y.c1, H7.out.1.y.c2⟩
          refine hK _ _ ⟨fun _ _ => trivial, hT, ?_⟩
          clear hK hb7 hc7 hbl7 hnw7 HZd HZ2
          refine anyT_take (i := 6) (n := 1) (v := .agg #[.bool s2, .slice e1 d1 i1, .slice e2 d2 i2, .bool false, .int .i64 0, .int .i64 0]) rfl (by decide) (by kernel_rfl) (by kernel_rfl) (by kernel_rfl) (fun _ _ _ h => h) (Or.inl ⟨by kernel_rfl, fun w' hw => by go_simp⟩) hS hT ?_
          clear hT
          refine anyK_all (n := 0) (rs := [7]) (by kernel_rfl) (by simp) (fun i hi => ?_)
          simp only [List.mem_cons, List.not_mem_nil, or_false] at hi
          obtain rfl := hi
          obtain ⟨z0, z1, z2, z3, z4, z5, g0', g1', g2', g3', g4', g5', z6⟩ := H7.out.1.z
          have HF := Lib.hid (show WvI (put6 w7 (w.heap.size + 1 + 1) (.bool s2) (.slice e1 d1 i1) (.slice e2 d2 i2) (.bool false) (.int .i64 0) (.int .i64 0)) e1 e2 d1 i1 d2 i2 s2 false 0 0 (N2 * D1 - N1 * D2) (D1 * D2) (r + s) from ⟨isBig_put H7.out.2.1 HN7.out _ _ _ _ _ _, isBig_put H7.out.2.2.2.2 HN6.out _ _ _ _ _ _, H7.out.2.2.1, H6c.out, Nat.mul_ne_zero HP.out.2.2.2.2.1 HP.out.2.2.2.2.2, by rw [wide_add_lt HNE.out HLT.out]; exact HVA.out, fun h => by cases h⟩)
          have HBL := Lib.hid (put6_below H7.out.1.bel (by omega : w.heap.size ≤ w.heap.size + 1 + 1) (.bool s2) (.slice e1 d1 i1) (.slice e2 d2 i2) (.bool false) (.int .i64 0) (.int .i64 0))
          have HT2 := Lib.hid (show (put6 w7 (w.heap.size + 1 + 1) (.bool s2) (.slice e1 d1 i1) (.slice e2 d2 i2) (.bool false) (.int .i64 0) (.int .i64 0)).cell? ⟨w.heap.size, 0, none⟩ = some (.bool s1) ∧ (put6 w7 (w.heap.size + 1 + 1) (.bool s2) (.slice e1 d1 i1) (.slice e2 d2 i2) (.bool false) (.int .i64 0) (.int .i64 0)).cell? ⟨w.heap.size, 1, none⟩ = some (.slice a1 l1 c1) ∧ (put6 w7 (w.heap.size + 1 + 1) (.bool s2) (.slice e1 d1 i1) (.slice e2 d2 i2) (.bool false) (.int .i64 0) (.int .i64 0)).cell? ⟨w.heap.size, 2, none⟩ = some (.slice a2 l2 c2) ∧ (put6 w7 (w.heap.size + 1 + 1) (.bool s2) (.slice e1 d1 i1) (.slice e2 d2 i2) (.bool false) (.int .i64 0) (.int .i64 0)).cell? ⟨w.heap.size + 1, 0, none⟩ = some (.bool s2) ∧ (put6 w7 (w.heap.size + 1 + 1) (.bool s2) (.slice e1 d1 i1) (.slice e2 d2 i2) (.bool false) (.int .i64 0) (.int .i64 0)).cell? ⟨w.heap.size + 1, 1, none⟩ = some (.slice b1 m1 k1) ∧ (put6 w7 (w.heap.size + 1 + 1) (.bool s2) (.slice e1 d1 i1) (.slice e2 d2 i2) (.bool false) (.int .i64 0) (.int .i64 0)).cell? ⟨w.heap.size + 1, 2, none⟩ = some (.slice b2 m2 k2) from ⟨(put6_cell (by omega) ..).trans H7.out.1.x.c0, (put6_cell (by omega) ..).trans H7.out.1.x.c1, (put6_cell (by omega) ..).trans H7.out.1.x.c2, (put6_cell (by omega) ..).trans H7.out.1.y.c0, (put6_cell (by omega) ..).trans H7.out.1.y.c1, (put6_cell (by omega) ..).trans H7.out.1.y.c2⟩)
          refine wpOp_step rfl (fun K' hK => ?_)
          go_simp
          refine hK _ _ ⟨fun _ _ => trivial, HT2.out, ?_⟩
          clear hK
          refine ⟨by kernel_rfl, ?_⟩
          go_wp2_with fail
          refine bodyPost_ret (v := .agg #[.bool s2, .slice e1 d1 i1, .slice e2 d2 i2, .bool false, .int .i64 0, .int .i64 0]) (by simp [results, Tryz.results106, go_sem, *]) rfl ?_
          exact ⟨s2, e1, d1, i1, e2, d2, i2, false, 0, 0, (N2 * D1 - N1 * D2), (D1 * D2), rfl, HF.out, ⟨HBX.out.2.2, Nat.lt_of_lt_of_le (mul_bits HP.out.2.1 HP.out.2.2.2.1) (Nat.pow_le_pow_right (by omega) (by omega))⟩, ⟨H7.out.2.2.2.1, H6n.out⟩, HBL.out⟩
        · have HLT := Lib.hid hlt
          have HCM := Lib.hid (bigCmp_any (N1 * D2) (N2 * D1) x7 x8 l7 l8 c7 c8 wC (by omega) (by omega) HZ.out.2.1 HZ.out.2.2.1)
          obtain ⟨zz, hzz⟩ : ∃ z, cmpN (N1 * D2) (N2 * D1) = z := ⟨_, rfl⟩
          have hz0 : ¬ zz < (0:Int) := by rw [← hzz]; unfold cmpN; rw [if_neg hlt]; split <;> omega
          rw [hzz] at HCM
          clear hzz hlt
          go_wp2_with fail
          refine HCM.out.mono ?_
          rintro e wD ⟨rfl, hbD⟩
          have HZ2 := Lib.hid (And.intro (HZ.out.1.all hbD) (And.intro (HZ.out.2.1.below hbD) (And.intro (HZ.out.2.2.1.below hbD) (HZ.out.2.2.2.below hbD))))
          clear hbD HZ HCM x0 x1 x2 x3 x4 x5 x6 y0 y1 y2 y3 y4 y5 y6
          go_wp2_with fail
          have HZd := Lib.hid (And.intro (HZ2.out.1.all (Below.refl _ wD).drew) (And.intro (HZ2.out.2.1.below (Below.refl _ wD).drew) (And.intro (HZ2.out.2.2.1.below (Below.refl _ wD).drew) (HZ2.out.2.2.2.below (Below.refl _ wD).drew))))
          refine wp_region_any (by kernel_rfl) (any_of_K (k := 7) (S := fun w' => True) (T := fun w' => w'.cell? ⟨w.heap.size, 0, none⟩ = some (.bool s1) ∧ w'.cell? ⟨w.heap.size, 1, none⟩ = some (.slice a1 l1 c1) ∧ w'.cell? ⟨w.heap.size, 2, none⟩ = some (.slice a2 l2 c2) ∧ w'.cell? ⟨w.heap.size + 1, 0, none⟩ = some (.bool s2) ∧ w'.cell? ⟨w.heap.size + 1, 1, none⟩ = some (.slice b1 m1 k1) ∧ w'.cell? ⟨w.heap.size + 1, 2, none⟩ = some (.slice b2 m2 k2)) _ _ _ _ ?_)
          have hS : True := trivial
          have hT : wD.drew.cell? ⟨w.heap.size, 0, none⟩ = some (.bool s1) ∧ wD.drew.cell? ⟨w.heap.size, 1, none⟩ = some (.slice a1 l1 c1) ∧ wD.drew.cell? ⟨w.heap.size, 2, none⟩ = some (.slice a2 l2 c2) ∧ wD.drew.cell? ⟨w.heap.size + 1, 0, none⟩ = some (.bool s2) ∧ wD.drew.cell? ⟨w.heap.size + 1, 1, none⟩ = some (.slice b1 m1 k1) ∧ wD.drew.cell? ⟨w.heap.size + 1, 2, none⟩ = some (.slice b2 m2 k2) := ⟨HZd.out.1.x.c0, HZd.out.1.x.c1, HZd.out.1.x.c2, HZd.out.1.y.c0, HZd.out.1.y.c1, HZd.out.1.y.c2⟩
          refine anyT_take (i := 0) (n := 7) (v := .pointer (some ⟨w.heap.size, 0, none⟩)) rfl (by decide) (by kernel_rfl) (by kernel_rfl) (by kernel_rfl) (fun _ _ _ h => h) (Or.inl ⟨by kernel_rfl, fun w' hw => by go_simp⟩) hS hT ?_
          refine anyT_take (i := 1) (n := 6) (v := .bool s1) rfl (by decide) (by kernel_rfl) (by kernel_rfl) (by kernel_rfl) (fun _ _ _ h => h) (Or.inl ⟨by kernel_rfl, fun w' hw => by (obtain ⟨u1, u2, u3, u4, u5, u6⟩ := hw; go_simp)⟩) hS hT ?_
          refine anyT_take (i := 2) (n := 5) (v := .slice x7 l7 c7) rfl (by decide) (by kernel_rfl) (by kernel_rfl) (by kernel_rfl) (fun _ _ _ h => h) (Or.inl ⟨by kernel_rfl, fun w' hw => by go_simp⟩) hS hT ?_
          refine anyT_take (i := 3) (n := 4) (v := .slice x8 l8 c8) rfl (by decide) (by kernel_rfl) (by kernel_rfl) (by kernel_rfl) (fun _ _ _ h => h) (Or.inl ⟨by kernel_rfl, fun w' hw => by go_simp⟩) hS hT ?_
          refine anyT_take (i := 5) (n := 3) (v := .slice e2 d2 i2) rfl (by decide) (by kernel_rfl) (by kernel_rfl) (by kernel_rfl) (fun _ _ _ h => h) (Or.inl ⟨by kernel_rfl, fun w' hw => by go_simp⟩) hS hT ?_
          clear hT
          refine anyK_all (n := 2) (rs := [4]) (by kernel_rfl) (by simp) (fun i hi => ?_)
          simp only [List.mem_cons, List.not_mem_nil, or_false] at hi
          obtain rfl := hi
          refine wpOp_step rfl (fun K' hK => ?_)
          go_simp
          refine (bigMinus_any (N1 * D2) (N2 * D1) x7 x8 l7 l8 c7 c8 wD.drew (by omega) (Nat.le_of_not_lt HLT.out) HZd.out.2.1 HZd.out.2.2.1).mono ?_
          rintro e w7 ⟨e1, i1, d1, rfl, hb7, hc7, hbl7, hnw7⟩
          have H7 := Lib.hid (And.intro (HZd.out.1.all hbl7) (And.intro hb7 (And.intro hc7 (And.intro (hnw7.le HZd.out.1.bel.size) (HZd.out.2.2.2.below hbl7)))))
          have HN7 := Lib.hid (hnw7.ne (b := w.heap.size + 1 + 1) HZd.out.1.z.lt)
          have hT : w7.cell? ⟨w.heap.size, 0, none⟩ = some (.bool s1) ∧ w7.cell? ⟨w.heap.size, 1, none⟩ = some (.slice a1 l1 c1) ∧ w7.cell? ⟨w.heap.size, 2, none⟩ = some (.slice a2 l2 c2) ∧ w7.cell? ⟨w.heap.size + 1, 0, none⟩ = some (.bool s2) ∧ w7.cell? ⟨w.heap.size + 1, 1, none⟩ = some (.slice b1 m1 k1) ∧ w7.cell? ⟨w.heap.size + 1, 2, none⟩ = some (.slice b2 m2 k2) := ⟨H7.out.1.x.c0, H7.out.1.x.c1, H7.out.1.x.c2, H7.out.1.y.c0, H7.out.1.y.c1, H7.out.1.y.c2⟩
          refine hK _ _ ⟨fun _ _ => trivial, hT, ?_⟩
          clear hK hb7 hc7 hbl7 hnw7 HZd HZ2
          refine anyT_take (i := 6) (n := 1) (v := .agg #[.bool s1, .slice e1 d1 i1, .slice e2 d2 i2, .bool false, .int .i64 0, .int .i64 0]) rfl (by decide) (by kernel_rfl) (by kernel_rfl) (by kernel_rfl) (fun _ _ _ h => h) (Or.inl ⟨by kernel_rfl, fun w' hw => by go_simp⟩) hS hT ?_
          clear hT
          refine anyK_all (n := 0) (rs := [7]) (by kernel_rfl) (by simp) (fun i hi => ?_)
          simp only [List.mem_cons, List.not_mem_nil, or_false] at hi
          obtain rfl := hi
          obtain ⟨z0, z1, z2, z3, z4, z5, g0', g1', g2', g3', g4', g5', z6⟩ := H7.out.1.z
          have HF := Lib.hid (show WvI (put6 w7 (w.heap.size + 1 + 1) (.bool s1) (.slice e1 d1 i1) (.slice e2 d2 i2) (.bool false) (.int .i64 0) (.int .i64 0)) e1 e2 d1 i1 d2 i2 s1 false 0 0 (N1 * D2 - N2 * D1) (D1 * D2) (r + s) from ⟨isBig_put H7.out.2.1 HN7.out _ _ _ _ _ _, isBig_put H7.out.2.2.2.2 HN6.out _ _ _ _ _ _, H7.out.2.2.1, H6c.out, Nat.mul_ne_zero HP.out.2.2.2.2.1 HP.out.2.2.2.2.2, by rw [wide_add_ge HNE.out (Nat.le_of_not_lt HLT.out)]; exact HVA.out, fun h => by cases h⟩)
          have HBL := Lib.hid (put6_below H7.out.1.bel (by omega : w.heap.size ≤ w.heap.size + 1 + 1) (.bool s1) (.slice e1 d1 i1) (.slice e2 d2 i2) (.bool false) (.int .i64 0) (.int .i64 0))
          have HT2 := Lib.hid (show (put6 w7 (w.heap.size + 1 + 1) (.bool s1) (.slice e1 d1 i1) (.slice e2 d2 i2) (.bool false) (.int .i64 0) (.int .i64 0)).cell? ⟨w.heap.size, 0, none⟩ = some (.bool s1) ∧ (put6 w7 (w.heap.size + 1 + 1) (.bool s1) (.slice e1 d1 i1) (.slice e2 d2 i2) (.bool false) (.int .i64 0) (.int .i64 0)).cell? ⟨w.heap.size, 1, none⟩ = some (.slice a1 l1 c1) ∧ (put6 w7 (w.heap.size + 1 + 1) (.bool s1) (.slice e1 d1 i1) (.slice e2 d2 i2) (.bool false) (.int .i64 0) (.int .i64 0)).cell? ⟨w.heap.size, 2, none⟩ = some (.slice a2 l2 c2) ∧ (put6 w7 (w.heap.size + 1 + 1) (.bool s1) (.slice e1 d1 i1) (.slice e2 d2 i2) (.bool false) (.int .i64 0) (.int .i64 0)).cell? ⟨w.heap.size + 1, 0, none⟩ = some (.bool s2) ∧ (put6 w7 (w.heap.size + 1 + 1) (.bool s1) (.slice e1 d1 i1) (.slice e2 d2 i2) (.bool false) (.int .i64 0) (.int .i64 0)).cell? ⟨w.heap.size + 1, 1, none⟩ = some (.slice b1 m1 k1) ∧ (put6 w7 (w.heap.size + 1 + 1) (.bool s1) (.slice e1 d1 i1) (.slice e2 d2 i2) (.bool false) (.int .i64 0) (.int .i64 0)).cell? ⟨w.heap.size + 1, 2, none⟩ = some (.slice b2 m2 k2) from ⟨(put6_cell (by omega) ..).trans H7.out.1.x.c0, (put6_cell (by omega) ..).trans H7.out.1.x.c1, (put6_cell (by omega) ..).trans H7.out.1.x.c2, (put6_cell (by omega) ..).trans H7.out.1.y.c0, (put6_cell (by omega) ..).trans H7.out.1.y.c1, (put6_cell (by omega) ..).trans H7.out.1.y.c2⟩)
          refine wpOp_step rfl (fun K' hK => ?_)
          go_simp
          refine hK _ _ ⟨fun _ _ => trivial, HT2.out, ?_⟩
          clear hK
          refine ⟨by kernel_rfl, ?_⟩
          go_wp2_with fail
          refine bodyPost_ret (v := .agg #[.bool s1, .slice e1 d1 i1, .slice e2 d2 i2, .bool false, .int .i64 0, .int .i64 0]) (by simp [results, Tryz.results106, go_sem, *]) rfl ?_
          exact ⟨s1, e1, d1, i1, e2, d2, i2, false, 0, 0, (N1 * D2 - N2 * D1), (D1 * D2), rfl, HF.out, ⟨HBX.out.2.1, Nat.lt_of_lt_of_le (mul_bits HP.out.2.1 HP.out.2.2.2.1) (Nat.pow_le_pow_right (by omega) (by omega))⟩, ⟨H7.out.2.2.2.1, H6n.out⟩, HBL.out⟩
  · have hff2 : f1 = false ∨ (f1 = true ∧ f2 = false) := by cases f1 <;> cases f2 <;> simp_all
    clear hff
    rcases hff2 with rfl | ⟨rfl, rfl⟩
    · go_enter Tryz.func106, Tryz.ntmps106
      go_upto_region 5 with fail
      obtain ⟨wB, hwB⟩ : ∃ w', (((w.alloc (.cells #[.bool s1, .slice a1 l1 c1, .slice a2 l2 c2, .bool false, .int .i64 p1, .int .i64 q1] 55)).alloc (.cells #[.bool s2, .slice b1 m1 k1, .slice b2 m2 k2, .bool f2, .int .i64 p2, .int .i64 q2] 55)).alloc (.cells #[.bool false, .slice none 0 0, .slice none 0 0, .bool false, .int .i64 0, .int .i64 0] 55)) = w' := ⟨_, rfl⟩
      have HB := Lib.hid H0.out
      rw [hwB] at HB
      rw [hwB]
      clear hwB H0
      obtain ⟨x0, x1, x2, x3, x4, x5, _, _, _, _, _, _, x6⟩ := HB.out.x
      obtain ⟨y0, y1, y2, y3, y4, y5, _, _, _, _, _, _, y6⟩ := HB.out.y
      go_wp2_with fail
      refine (bigTimes_any N1 D2 a1 b2 l1 m2 c1 k2 wB (by omega) (by omega) HB.out.v1.n HB.out.v2.d).mono ?_
      rintro e w4 ⟨x7, c7, l7, rfl, hb7, hc7, hbl7, hnw7⟩
      have hl7 := big_lt (k := 200000) hb7 (mul_bits HP.out.1 HP.out.2.2.2.1) (by omega)
      have H4 := Lib.hid (And.intro (HB.out.all hbl7) hb7)
      clear hb7 hbl7 hnw7 x0 x1 x2 x3 x4 x5 x6 y0 y1 y2 y3 y4 y5 y6 HB
      obtain ⟨x0, x1, x2, x3, x4, x5, _, _, _, _, _, _, x6⟩ := H4.out.1.x
      obtain ⟨y0, y1, y2, y3, y4, y5, _, _, _, _, _, _, y6⟩ := H4.out.1.y
      go_wp2_with fail
      refine (bigTimes_any N2 D1 b1 a2 m1 l2 k1 c2 w4 (by omega) (by omega) H4.out.1.v2.n H4.out.1.v1.d).mono ?_
      rintro e w5 ⟨x8, c8, l8, rfl, hb8, hc8, hbl8, hnw8⟩
      have hl8 := big_lt (k := 200000) hb8 (mul_bits HP.out.2.2.1 HP.out.2.1) (by omega)
      have H5 := Lib.hid (And.intro (H4.out.1.all hbl8) (And.intro (H4.out.2.below hbl8) hb8))
      clear hb8 hbl8 hnw8 x0 x1 x2 x3 x4 x5 x6 y0 y1 y2 y3 y4 y5 y6 H4
      obtain ⟨x0, x1, x2, x3, x4, x5, _, _, _, _, _, _, x6⟩ := H5.out.1.x
      obtain ⟨y0, y1, y2, y3, y4, y5, _, _, _, _, _, _, y6⟩ := H5.out.1.y
      go_wp2_with fail
      refine (bigTimes_any D1 D2 a2 b2 l2 m2 c2 k2 w5 (by omega) (by omega) H5.out.1.v1.d H5.out.1.v2.d).mono ?_
      rintro e wC ⟨e2, i2, d2, rfl, hb9, hc9, hbl9, hnw9⟩
      have HN6 := Lib.hid (hnw9.ne (b := w.heap.size + 1 + 1) H5.out.1.z.lt)
      have H6n := Lib.hid (hnw9.le H5.out.1.bel.size)
      have H6c := Lib.hid hc9
      have HZ := Lib.hid (And.intro (H5.out.1.all hbl9) (And.intro (H5.out.2.1.below hbl9) (And.intro (H5.out.2.2.below hbl9) hb9)))
      clear hb9 hbl9 hnw9 hc9 x0 x1 x2 x3 x4 x5 x6 y0 y1 y2 y3 y4 y5 y6 H5
      obtain ⟨x0, x1, x2, x3, x4, x5, _, _, _, _, _, _, x6⟩ := HZ.out.1.x
      obtain ⟨y0, y1, y2, y3, y4, y5, _, _, _, _, _, _, y6⟩ := HZ.out.1.y
      have HVA := Lib.hid (wide_add_val HP.out.2.2.2.2.1 HP.out.2.2.2.2.2 HVL.out.1 HVL.out.2)
      have HBX := Lib.hid (add_bits (mul_bits HP.out.1 HP.out.2.2.2.1) (mul_bits HP.out.2.2.1 HP.out.2.1) (show x + y + 1 ≤ x + y + 61 by omega) (show y + x = x + y by omega))
      by_cases hs : s1 = s2
      · subst hs
        go_wp2_with fail
        clear x0 x1 x2 x3 x4 x5 x6 y0 y1 y2 y3 y4 y5 y6
        have HZd := Lib.hid (And.intro (HZ.out.1.all (Below.refl _ wC).drew) (And.intro (HZ.out.2.1.below (Below.refl _ wC).drew) (And.intro (HZ.out.2.2.1.below (Below.refl _ wC).drew) (HZ.out.2.2.2.below (Below.refl _ wC).drew))))
        refine wp_region_any (by kernel_rfl) (any_of_K (k := 7) (S := fun w' => True) (T := fun w' => w'.cell? ⟨w.heap.size, 0, none⟩ = some (.bool s1) ∧ w'.cell? ⟨w.heap.size, 1, none⟩ = some (.slice a1 l1 c1) ∧ w'.cell? ⟨w.heap.size, 2, none⟩ = some (.slice a2 l2 c2) ∧ w'.cell? ⟨w.heap.size + 1, 0, none⟩ = some (.bool s1) ∧ w'.cell? ⟨w.heap.size + 1, 1, none⟩ = some (.slice b1 m1 k1) ∧ w'.cell? ⟨w.heap.size + 1, 2, none⟩ = some (.slice b2 m2 k2)) _ _ _ _ ?_)
        have hS : True := trivial
        have hT : wC.drew.cell? ⟨w.heap.size, 0, none⟩ = some (.bool s1) ∧ wC.drew.cell? ⟨w.heap.size, 1, none⟩ = some (.slice a1 l1 c1) ∧ wC.drew.cell? ⟨w.heap.size, 2, none⟩ = some (.slice a2 l2 c2) ∧ wC.drew.cell? ⟨w.heap.size + 1, 0, none⟩ = some (.bool s1) ∧ wC.drew.cell? ⟨w.heap.size + 1, 1, none⟩ = some (.slice b1 m1 k1) ∧ wC.drew.cell? ⟨w.heap.size + 1, 2, none⟩ = some (.slice b2 m2 k2) := ⟨HZd.out.1.x.c0, HZd.out.1.x.c1, HZd.out.1.x.c2, HZd.out.1.y.c0, HZd.out.1.y.c1, HZd.out.1.y.c2⟩
        refine anyT_take (i := 0) (n := 7) (v := .pointer (some ⟨w.heap.size, 0, none⟩)) rfl (by decide) (by kernel_rfl) (by kernel_rfl) (by kernel_rfl) (fun _ _ _ h => h) (Or.inl ⟨by kernel_rfl, fun w' hw => by go_simp⟩) hS hT ?_
        refine anyT_take (i := 1) (n := 6) (v := .bool s1) rfl (by decide) (by kernel_rfl) (by kernel_rfl) (by kernel_rfl) (fun _ _ _ h => h) (Or.inl ⟨by kernel_rfl, fun w' hw => by (obtain ⟨u1, u2, u3, u4, u5, u6⟩ := hw; go_simp)⟩) hS hT ?_
        refine anyT_take (i := 2) (n := 5) (v := .slice x7 l7 c7) rfl (by decide) (by kernel_rfl) (by kernel_rfl) (by kernel_rfl) (fun _ _ _ h => h) (Or.inl ⟨by kernel_rfl, fun w' hw => by go_simp⟩) hS hT ?_
        refine anyT_take (i := 3) (n := 4) (v := .slice x8 l8 c8) rfl (by decide) (by kernel_rfl) (by kernel_rfl) (by kernel_rfl) (fun _ _ _ h => h) (Or.inl ⟨by kernel_rfl, fun w' hw => by go_simp⟩) hS hT ?_
        refine anyT_take (i := 5) (n := 3) (v := .slice e2 d2 i2) rfl (by decide) (by kernel_rfl) (by kernel_rfl) (by kernel_rfl) (fun _ _ _ h => h) (Or.inl ⟨by kernel_rfl, fun w' hw => by go_simp⟩) hS hT ?_
        clear hT
        refine anyK_all (n := 2) (rs := [4]) (by kernel_rfl) (by simp) (fun i hi => ?_)
        simp only [List.mem_cons, List.not_mem_nil, or_false] at hi
        obtain rfl := hi
        refine wpOp_step rfl (fun K' hK => ?_)
        go_simp
        refine (bigPlus_any (N1 * D2) (N2 * D1) x7 x8 l7 l8 c7 c8 wC.drew (by omega) (by omega) HZd.out.2.1 HZd.out.2.2.1).mono ?_
        rintro e w7 ⟨e1, i1, d1, rfl, hb7, hc7, hbl7, hnw7⟩
        have H7 := Lib.hid (And.intro (HZd.out.1.all hbl7) (And.intro hb7 (And.intro hc7 (And.intro (hnw7.le HZd.out.1.bel.size) (HZd.out.2.2.2.below hbl7)))))
        have HN7 := Lib.hid (hnw7.ne (b := w.heap.size + 1 + 1) HZd.out.1.z.lt)
        have hT : w7.cell? ⟨w.heap.size, 0, none⟩ = some (.bool s1) ∧ w7.cell? ⟨w.heap.size, 1, none⟩ = some (.slice a1 l1 c1) ∧ w7.cell? ⟨w.heap.size, 2, none⟩ = some (.slice a2 l2 c2) ∧ w7.cell? ⟨w.heap.size + 1, 0, none⟩ = some (.bool s1) ∧ w7.cell? ⟨w.heap.size + 1, 1, none⟩ = some (.slice b1 m1 k1) ∧ w7.cell? ⟨w.heap.size + 1, 2, none⟩ = some (.slice b2 m2 k2) := ⟨H7.out.1.x.c0, H7.out.1.x.c1, H7.out.1.x.c2, H7.out.1.y.c0, H7.out.1.y.c1, H7.out.1.y.c2⟩
        refine hK _ _ ⟨fun _ _ => trivial, hT, ?_⟩
        clear hK hb7 hc7 hbl7 hnw7 HZd HZ
        refine anyT_take (i := 6) (n := 1) (v := .agg #[.bool s1, .slice e1 d1 i1, .slice e2 d2 i2, .bool false, .int .i64 0, .int .i64 0]) rfl (by decide) (by kernel_rfl) (by kernel_rfl) (by kernel_rfl) (fun _ _ _ h => h) (Or.inl ⟨by kernel_rfl, fun w' hw => by go_simp⟩) hS hT ?_
        clear hT
        refine anyK_all (n := 0) (rs := [7]) (by kernel_rfl) (by simp) (fun i hi => ?_)
        simp only [List.mem_cons, List.not_mem_nil, or_false] at hi
        obtain rfl := hi
        obtain ⟨z0, z1, z2, z3, z4, z5, g0', g1', g2', g3', g4', g5', z6⟩ := H7.out.1.z
        have HF := Lib.hid (show WvI (put6 w7 (w.heap.size + 1 + 1) (.bool s1) (.slice e1 d1 i1) (.slice e2 d2 i2) (.bool false) (.int .i64 0) (.int .i64 0)) e1 e2 d1 i1 d2 i2 s1 false 0 0 (N1 * D2 + N2 * D1) (D1 * D2) (r + s) from ⟨isBig_put H7.out.2.1 HN7.out _ _ _ _ _ _, isBig_put H7.out.2.2.2.2 HN6.out _ _ _ _ _ _, H7.out.2.2.1, H6c.out, Nat.mul_ne_zero HP.out.2.2.2.2.1 HP.out.2.2.2.2.2, by rw [wide_add_same]; exact HVA.out, fun h => by cases h⟩)
        have HBL := Lib.hid (put6_below H7.out.1.bel (by omega : w.heap.size ≤ w.heap.size + 1 + 1) (.bool s1) (.slice e1 d1 i1) (.slice e2 d2 i2) (.bool false) (.int .i64 0) (.int .i64 0))
        have HT2 := Lib.hid (show (put6 w7 (w.heap.size + 1 + 1) (.bool s1) (.slice e1 d1 i1) (.slice e2 d2 i2) (.bool false) (.int .i64 0) (.int .i64 0)).cell? ⟨w.heap.size, 0, none⟩ = some (.bool s1) ∧ (put6 w7 (w.heap.size + 1 + 1) (.bool s1) (.slice e1 d1 i1) (.slice e2 d2 i2) (.bool false) (.int .i64 0) (.int .i64 0)).cell? ⟨w.heap.size, 1, none⟩ = some (.slice a1 l1 c1) ∧ (put6 w7 (w.heap.size + 1 + 1) (.bool s1) (.slice e1 d1 i1) (.slice e2 d2 i2) (.bool false) (.int .i64 0) (.int .i64 0)).cell? ⟨w.heap.size, 2, none⟩ = some (.slice a2 l2 c2) ∧ (put6 w7 (w.heap.size + 1 + 1) (.bool s1) (.slice e1 d1 i1) (.slice e2 d2 i2) (.bool false) (.int .i64 0) (.int .i64 0)).cell? ⟨w.heap.size + 1, 0, none⟩ = some (.bool s1) ∧ (put6 w7 (w.heap.size + 1 + 1) (.bool s1) (.slice e1 d1 i1) (.slice e2 d2 i2) (.bool false) (.int .i64 0) (.int .i64 0)).cell? ⟨w.heap.size + 1, 1, none⟩ = some (.slice b1 m1 k1) ∧ (put6 w7 (w.heap.size + 1 + 1) (.bool s1) (.slice e1 d1 i1) (.slice e2 d2 i2) (.bool false) (.int .i64 0) (.int .i64 0)).cell? ⟨w.heap.size + 1, 2, none⟩ = some (.slice b2 m2 k2) from ⟨(put6_cell (by omega) ..).trans H7.out.1.x.c0, (put6_cell (by omega) ..).trans H7.out.1.x.c1, (put6_cell (by omega) ..).trans H7.out.1.x.c2, (put6_cell (by omega) ..).trans H7.out.1.y.c0, (put6_cell (by omega) ..).trans H7.out.1.y.c1, (put6_cell (by omega) ..).trans H7.out.1.y.c2⟩)
        refine wpOp_step rfl (fun K' hK => ?_)
        go_simp
        refine hK _ _ ⟨fun _ _ => trivial, HT2.out, ?_⟩
        clear hK
        refine ⟨by kernel_rfl, ?_⟩
        go_wp2_with fail
        refine bodyPost_ret (v := .agg #[.bool s1, .slice e1 d1 i1, .slice e2 d2 i2, .bool false, .int .i64 0, .int .i64 0]) (by simp [results, Tryz.results106, go_sem, *]) rfl ?_
        exact ⟨s1, e1, d1, i1, e2, d2, i2, false, 0, 0, (N1 * D2 + N2 * D1), (D1 * D2), rfl, HF.out, ⟨HBX.out.1, Nat.lt_of_lt_of_le (mul_bits HP.out.2.1 HP.out.2.2.2.1) (Nat.pow_le_pow_right (by omega) (by omega))⟩, ⟨H7.out.2.2.2.1, H6n.out⟩, HBL.out⟩
      · have hse : (s1 == s2) = false := by rw [beq_eq_false_iff_ne]; exact hs
        have HNE := Lib.hid hs
        clear hs
        by_cases hlt : N1 * D2 < N2 * D1
        · have HLT := Lib.hid hlt
          have HCM := Lib.hid (bigCmp_any (N1 * D2) (N2 * D1) x7 x8 l7 l8 c7 c8 wC (by omega) (by omega) HZ.out.2.1 HZ.out.2.2.1)
          obtain ⟨zz, hzz⟩ : ∃ z, cmpN (N1 * D2) (N2 * D1) = z := ⟨_, rfl⟩
          have hz0 : zz < (0:Int) := by rw [← hzz]; unfold cmpN; rw [if_pos hlt]; omega
          rw [hzz] at HCM
          clear hzz hlt
          go_wp2_with fail
          refine HCM.out.mono ?_
          rintro e wD ⟨rfl, hbD⟩
          have HZ2 := Lib.hid (And.intro (HZ.out.1.all hbD) (And.intro (HZ.out.2.1.below hbD) (And.intro (HZ.out.2.2.1.below hbD) (HZ.out.2.2.2.below hbD))))
          clear hbD HZ HCM x0 x1 x2 x3 x4 x5 x6 y0 y1 y2 y3 y4 y5 y6
          go_wp2_with fail
          have HZd := Lib.hid (And.intro (HZ2.out.1.all (Below.refl _ wD).drew) (And.intro (HZ2.out.2.1.below (Below.refl _ wD).drew) (And.intro (HZ2.out.2.2.1.below (Below.refl _ wD).drew) (HZ2.out.2.2.2.below (Below.refl _ wD).drew))))
          refine wp_region_any (by kernel_rfl) (any_of_K (k := 7) (S := fun w' => True) (T := fun w' => w'.cell? ⟨w.heap.size, 0, none⟩ = some (.bool s1) ∧ w'.cell? ⟨w.heap.size, 1, none⟩ = some (.slice a1 l1 c1) ∧ w'.cell? ⟨w.heap.size, 2, none⟩ = some (.slice a2 l2 c2) ∧ w'.cell? ⟨w.heap.size + 1, 0, none⟩ = some (.bool s2) ∧ w'.cell? ⟨w.heap.size + 1, 1, none⟩ = some (.slice b1 m1 k1) ∧ w'.cell? ⟨w.heap.size + 1, 2, none⟩ = some (.slice b2 m2 k2)) _ _ _ _ ?_)
          have hS : True := trivial
          have hT : wD.drew.cell? ⟨w.heap.size, 0, none⟩ = some (.bool s1) ∧ wD.drew.cell? ⟨w.heap.size, 1, none⟩ = some (.slice a1 l1 c1) ∧ wD.drew.cell? ⟨w.heap.size, 2, none⟩ = some (.slice a2 l2 c2) ∧ wD.drew.cell? ⟨w.heap.size + 1, 0, none⟩ = some (.bool s2) ∧ wD.drew.cell? ⟨w.heap.size + 1, 1, none⟩ = some (.slice b1 m1 k1) ∧ wD.drew.cell? ⟨w.heap.size + 1, 2, none⟩ = some (.slice b2 m2 k2) := ⟨HZd.out.1.x.c0, HZd.out.1.x.c1, HZd.out.1.x.c2, HZd.out.1.y.c0, HZd.out.1.y.c1, HZd.out.1.y.c2⟩
          refine anyT_take (i := 0) (n := 7) (v := .pointer (some ⟨w.heap.size + 1, 0, none⟩)) rfl (by decide) (by kernel_rfl) (by kernel_rfl) (by kernel_rfl) (fun _ _ _ h => h) (Or.inl ⟨by kernel_rfl, fun w' hw => by go_simp⟩) hS hT ?_
          refine anyT_take (i := 1) (n := 6) (v := .bool s2) rfl (by decide) (by kernel_rfl) (by kernel_rfl) (by kernel_rfl) (fun _ _ _ h => h) (Or.inl ⟨by kernel_rfl, fun w' hw => by (obtain ⟨u1, u2, u3, u4, u5, u6⟩ := hw; go_simp)⟩) hS hT ?_
          refine anyT_take (i := 2) (n := 5) (v := .slice x8 l8 c8) rfl (by decide) (by kernel_rfl) (by kernel_rfl) (by kernel_rfl) (fun _ _ _ h => h) (Or.inl ⟨by kernel_rfl, fun w' hw => by go_simp⟩) hS hT ?_
          refine anyT_take (i := 3) (n := 4) (v := .slice x7 l7 c7) rfl (by decide) (by kernel_rfl) (by kernel_rfl) (by kernel_rfl) (fun _ _ _ h => h) (Or.inl ⟨by kernel_rfl, fun w' hw => by go_simp⟩) hS hT ?_
          refine anyT_take (i := 5) (n := 3) (v := .slice e2 d2 i2) rfl (by decide) (by kernel_rfl) (by kernel_rfl) (by kernel_rfl) (fun _ _ _ h => h) (Or.inl ⟨by kernel_rfl, fun w' hw => by go_simp⟩) hS hT ?_
          clear hT
          refine anyK_all (n := 2) (rs := [4]) (by kernel_rfl) (by simp) (fun i hi => ?_)
          simp only [List.mem_cons, List.not_mem_nil, or_false] at hi
          obtain rfl := hi
          refine wpOp_step rfl (fun K' hK => ?_)
          go_simp
          refine (bigMinus_any (N2 * D1) (N1 * D2) x8 x7 l8 l7 c8 c7 wD.drew (by omega) (Nat.le_of_lt HLT.out) HZd.out.2.2.1 HZd.out.2.1).mono ?_
          rintro e w7 ⟨e1, i1, d1, rfl, hb7, hc7, hbl7, hnw7⟩
          have H7 := Lib.hid (And.intro (HZd.out.1.all hbl7) (And.intro hb7 (And.intro hc7 (And.intro (hnw7.le HZd.out.1.bel.size) (HZd.out.2.2.2.below hbl7)))))
          have HN7 := Lib.hid (hnw7.ne (b := w.heap.size + 1 + 1) HZd.out.1.z.lt)
          have hT : w7.cell? ⟨w.heap.size, 0, none⟩ = some (.bool s1) ∧ w7.cell? ⟨w.heap.size, 1, none⟩ = some (.slice a1 l1 c1) ∧ w7.cell? ⟨w.heap.size, 2, none⟩ = some (.slice a2 l2 c2) ∧ w7.cell? ⟨w.heap.size + 1, 0, none⟩ = some (.bool s2) ∧ w7.cell? ⟨w.heap.size + 1, 1, none⟩ = some (.slice b1 m1 k1) ∧ w7.cell? ⟨w.heap.size + 1, 2, none⟩ = some (.slice b2 m2 k2) := ⟨H7.out.1.x.c0, H7.out.1.x.c1, H7.out.1.x.c2, H7.out.1.y.c0, H7.out.1.y.c1, H7.out.1.y.c2⟩
          refine hK _ _ ⟨fun _ _ => trivial, hT, ?_⟩
          clear hK hb7 hc7 hbl7 hnw7 HZd HZ2
          refine anyT_take (i := 6) (n := 1) (v := .agg #[.bool s2, .slice e1 d1 i1, .slice e2 d2 i2, .bool false, .int .i64 0, .int .i64 0]) rfl (by decide) (by kernel_rfl) (by kernel_rfl) (by kernel_rfl) (fun _ _ _ h => h) (Or.inl ⟨by kernel_rfl, fun w' hw => by go_simp⟩) hS hT ?_
          clear hT
          refine anyK_all (n := 0) (rs := [7]) (by kernel_rfl) (by simp) (fun i hi => ?_)
          simp only [List.mem_cons, List.not_mem_nil, or_false] at hi
          obtain rfl := hi
          obtain ⟨z0, z1, z2, z3, z4, z5, g0', g1', g2', g3', g4', g5', z6⟩ := H7.out.1.z
          have HF := Lib.hid (show WvI (put6 w7 (w.heap.size + 1 + 1) (.bool s2) (.slice e1 d1 i1) (.slice e2 d2 i2) (.bool false) (.int .i64 0) (.int .i64 0)) e1 e2 d1 i1 d2 i2 s2 false 0 0 (N2 * D1 - N1 * D2) (D1 * D2) (r + s) from ⟨isBig_put H7.out.2.1 HN7.out _ _ _ _ _ _, isBig_put H7.out.2.2.2.2 HN6.out _ _ _ _ _ _, H7.out.2.2.1, H6c.out, Nat.mul_ne_zero HP.out.2.2.2.2.1 HP.out.2.2.2.2.2, by rw [wide_add_lt HNE.out HLT.out]; exact HVA.out, fun h => by cases h⟩)
          have HBL := Lib.hid (put6_below H7.out.1.bel (by omega : w.heap.size ≤ w.heap.size + 1 + 1) (.bool s2) (.slice e1 d1 i1) (.slice e2 d2 i2) (.bool false) (.int .i64 0) (.int .i64 0))
          have HT2 := Lib.hid (show (put6 w7 (w.heap.size + 1 + 1) (.bool s2) (.slice e1 d1 i1) (.slice e2 d2 i2) (.bool false) (.int .i64 0) (.int .i64 0)).cell? ⟨w.heap.size, 0, none⟩ = some (.bool s1) ∧ (put6 w7 (w.heap.size + 1 + 1) (.bool s2) (.slice e1 d1 i1) (.slice e2 d2 i2) (.bool false) (.int .i64 0) (.int .i64 0)).cell? ⟨w.heap.size, 1, none⟩ = some (.slice a1 l1 c1) ∧ (put6 w7 (w.heap.size + 1 + 1) (.bool s2) (.slice e1 d1 i1) (.slice e2 d2 i2) (.bool false) (.int .i64 0) (.int .i64 0)).cell? ⟨w.heap.size, 2, none⟩ = some (.slice a2 l2 c2) ∧ (put6 w7 (w.heap.size + 1 + 1) (.bool s2) (.slice e1 d1 i1) (.slice e2 d2 i2) (.bool false) (.int .i64 0) (.int .i64 0)).cell? ⟨w.heap.size + 1, 0, none⟩ = some (.bool s2) ∧ (put6 w7 (w.heap.size + 1 + 1) (.bool s2) (.slice e1 d1 i1) (.slice e2 d2 i2) (.bool false) (.int .i64 0) (.int .i64 0)).cell? ⟨w.heap.size + 1, 1, none⟩ = some (.slice b1 m1 k1) ∧ (put6 w7 (w.heap.size + 1 + 1) (.bool s2) (.slice e1 d1 i1) (.slice e2 d2 i2) (.bool false) (.int .i64 0) (.int .i64 0)).cell? ⟨w.heap.size + 1, 2, none⟩ = some (.slice b2 m2 k2) from ⟨(put6_cell (by omega) ..).trans H7.out.1.x.c0, (put6_cell (by omega) ..).trans H7.out.1.x.c1, (put6_cell (by omega) ..).trans H7.out.1.x.c2, (put6_cell (by omega) ..).trans H7.out.1.y.c0, (put6_cell (by omega) ..).trans H7.out.1.y.c1, (put6_cell (by omega) ..).trans H7.out.1.y.c2⟩)
          refine wpOp_step rfl (fun K' hK => ?_)
          go_simp
          refine hK _ _ ⟨fun _ _ => trivial, HT2.out, ?_⟩
          clear hK
          refine ⟨by kernel_rfl, ?_⟩
          go_wp2_with fail
          refine bodyPost_ret (v := .agg #[.bool s2, .slice e1 d1 i1, .slice e2 d2 i2, .bool false, .int .i64 0, .int .i64 0]) (by simp [results, Tryz.results106, go_sem, *]) rfl ?_
          exact ⟨s2, e1, d1, i1, e2, d2, i2, false, 0, 0, (N2 * D1 - N1 * D2), (D1 * D2), rfl, HF.out, ⟨HBX.out.2.2, Nat.lt_of_lt_of_le (mul_bits HP.out.2.1 HP.out.2.2.2.1) (Nat.pow_le_pow_right (by omega) (by omega))⟩, ⟨H7.out.2.2.2.1, H6n.out⟩, HBL.out⟩
        · have HLT := Lib.hid hlt
          have HCM := Lib.hid (bigCmp_any (N1 * D2) (N2 * D1) x7 x8 l7 l8 c7 c8 wC (by omega) (by omega) HZ.out.2.1 HZ.out.2.2.1)
          obtain ⟨zz, hzz⟩ : ∃ z, cmpN (N1 * D2) (N2 * D1) = z := ⟨_, rfl⟩
          have hz0 : ¬ zz < (0:Int) := by rw [← hzz]; unfold cmpN; rw [if_neg hlt]; split <;> omega
          rw [hzz] at HCM
          clear hzz hlt
          go_wp2_with fail
          refine HCM.out.mono ?_
          rintro e wD ⟨rfl, hbD⟩
          have HZ2 := Lib.hid (And.intro (HZ.out.1.all hbD) (And.intro (HZ.out.2.1.below hbD) (And.intro (HZ.out.2.2.1.below hbD) (HZ.out.2.2.2.below hbD))))
          clear hbD HZ HCM x0 x1 x2 x3 x4 x5 x6 y0 y1 y2 y3 y4 y5 y6
          go_wp2_with fail
          have HZd := Lib.hid (And.intro (HZ2.out.1.all (Below.refl _ wD).drew) (And.intro (HZ2.out.2.1.below (Below.refl _ wD).drew) (And.intro (HZ2.out.2.2.1.below (Below.refl _ wD).drew) (HZ2.out.2.2.2.below (Below.refl _ wD).drew))))
          refine wp_region_any (by kernel_rfl) (any_of_K (k := 7) (S := fun w' => True) (T := fun w' => w'.cell? ⟨w.heap.size, 0, none⟩ = some (.bool s1) ∧ w'.cell? ⟨w.heap.size, 1, none⟩ = some (.slice a1 l1 c1) ∧ w'.cell? ⟨w.heap.size, 2, none⟩ = some (.slice a2 l2 c2) ∧ w'.cell? ⟨w.heap.size + 1, 0, none⟩ = some (.bool s2) ∧ w'.cell? ⟨w.heap.size + 1, 1, none⟩ = some (.slice b1 m1 k1) ∧ w'.cell? ⟨w.heap.size + 1, 2, none⟩ = some (.slice b2 m2 k2)) _ _ _ _ ?_)
          have hS : True := trivial
          have hT : wD.drew.cell? ⟨w.heap.size, 0, none⟩ = some (.bool s1) ∧ wD.drew.cell? ⟨w.heap.size, 1, none⟩ = some (.slice a1 l1 c1) ∧ wD.drew.cell? ⟨w.heap.size, 2, none⟩ = some (.slice a2 l2 c2) ∧ wD.drew.cell? ⟨w.heap.size + 1, 0, none⟩ = some (.bool s2) ∧ wD.drew.cell? ⟨w.heap.size + 1, 1, none⟩ = some (.slice b1 m1 k1) ∧ wD.drew.cell? ⟨w.heap.size + 1, 2, none⟩ = some (.slice b2 m2 k2) := ⟨HZd.out.1.x.c0, HZd.out.1.x.c1, HZd.out.1.x.c2, HZd.out.1.y.c0, HZd.out.1.y.c1, HZd.out.1.y.c2⟩
          refine anyT_take (i := 0) (n := 7) (v := .pointer (some ⟨w.heap.size, 0, none⟩)) rfl (by decide) (by kernel_rfl) (by kernel_rfl) (by kernel_rfl) (fun _ _ _ h => h) (Or.inl ⟨by kernel_rfl, fun w' hw => by go_simp⟩) hS hT ?_
          refine anyT_take (i := 1) (n := 6) (v := .bool s1) rfl (by decide) (by kernel_rfl) (by kernel_rfl) (by kernel_rfl) (fun _ _ _ h => h) (Or.inl ⟨by kernel_rfl, fun w' hw => by (obtain ⟨u1, u2, u3, u4, u5, u6⟩ := hw; go_simp)⟩) hS hT ?_
          refine anyT_take (i := 2) (n := 5) (v := .slice x7 l7 c7) rfl (by decide) (by kernel_rfl) (by kernel_rfl) (by kernel_rfl) (fun _ _ _ h => h) (Or.inl ⟨by kernel_rfl, fun w' hw => by go_simp⟩) hS hT ?_
          refine anyT_take (i := 3) (n := 4) (v := .slice x8 l8 c8) rfl (by decide) (by kernel_rfl) (by kernel_rfl) (by kernel_rfl) (fun _ _ _ h => h) (Or.inl ⟨by kernel_rfl, fun w' hw => by go_simp⟩) hS hT ?_
          refine anyT_take (i := 5) (n := 3) (v := .slice e2 d2 i2) rfl (by decide) (by kernel_rfl) (by kernel_rfl) (by kernel_rfl) (fun _ _ _ h => h) (Or.inl ⟨by kernel_rfl, fun w' hw => by go_simp⟩) hS hT ?_
          clear hT
          refine anyK_all (n := 2) (rs := [4]) (by kernel_rfl) (by simp) (fun i hi => ?_)
          simp only [List.mem_cons, List.not_mem_nil, or_false] at hi
          obtain rfl := hi
          refine wpOp_step rfl (fun K' hK => ?_)
          go_simp
          refine (bigMinus_any (N1 * D2) (N2 * D1) x7 x8 l7 l8 c7 c8 wD.drew (by omega) (Nat.le_of_not_lt HLT.out) HZd.out.2.1 HZd.out.2.2.1).mono ?_
          rintro e w7 ⟨e1, i1, d1, rfl, hb7, hc7, hbl7, hnw7⟩
          have H7 := Lib.hid (And.intro (HZd.out.1.all hbl7) (And.intro hb7 (And.intro hc7 (And.intro (hnw7.le HZd.out.1.bel.size) (HZd.out.2.2.2.below hbl7)))))
          have HN7 := Lib.hid (hnw7.ne (b := w.heap.size + 1 + 1) HZd.out.1.z.lt)
          have hT : w7.cell? ⟨w.heap.size, 0, none⟩ = some (.bool s1) ∧ w7.cell? ⟨w.heap.size, 1, none⟩ = some (.slice a1 l1 c1) ∧ w7.cell? ⟨w.heap.size, 2, none⟩ = some (.slice a2 l2 c2) ∧ w7.cell? ⟨w.heap.size + 1, 0, none⟩ = some (.bool s2) ∧ w7.cell? ⟨w.heap.size + 1, 1, none⟩ = some (.slice b1 m1 k1) ∧ w7.cell? ⟨w.heap.size + 1, 2, none⟩ = some (.slice b2 m2 k2) := ⟨H7.out.1.x.c0, H7.out.1.x.c1, H7.out.1.x.c2, H7.out.1.y.c0, H7.out.1.y.c1, H7.out.1.y.c2⟩
          refine hK _ _ ⟨fun _ _ => trivial, hT, ?_⟩
          clear hK hb7 hc7 hbl7 hnw7 HZd HZ2
          refine anyT_take (i := 6) (n := 1) (v := .agg #[.bool s1, .slice e1 d1 i1, .slice e2 d2 i2, .bool false, .int .i64 0, .int .i64 0]) rfl (by decide) (by kernel_rfl) (by kernel_rfl) (by kernel_rfl) (fun _ _ _ h => h) (Or.inl ⟨by kernel_rfl, fun w' hw => by go_simp⟩) hS hT ?_
          clear hT
          refine anyK_all (n := 0) (rs := [7]) (by kernel_rfl) (by simp) (fun i hi => ?_)
          simp only [List.mem_cons, List.not_mem_nil, or_false] at hi
          obtain rfl := hi
          obtain ⟨z0, z1, z2, z3, z4, z5, g0', g1', g2', g3', g4', g5', z6⟩ := H7.out.1.z
          have HF := Lib.hid (show WvI (put6 w7 (w.heap.size + 1 + 1) (.bool s1) (.slice e1 d1 i1) (.slice e2 d2 i2) (.bool false) (.int .i64 0) (.int .i64 0)) e1 e2 d1 i1 d2 i2 s1 false 0 0 (N1 * D2 - N2 * D1) (D1 * D2) (r + s) from ⟨isBig_put H7.out.2.1 HN7.out _ _ _ _ _ _, isBig_put H7.out.2.2.2.2 HN6.out _ _ _ _ _ _, H7.out.2.2.1, H6c.out, Nat.mul_ne_zero HP.out.2.2.2.2.1 HP.out.2.2.2.2.2, by rw [wide_add_ge HNE.out (Nat.le_of_not_lt HLT.out)]; exact HVA.out, fun h => by cases h⟩)
          have HBL := Lib.hid (put6_below H7.out.1.bel (by omega : w.heap.size ≤ w.heap.size + 1 + 1) (.bool s1) (.slice e1 d1 i1) (.slice e2 d2 i2) (.bool false) (.int .i64 0) (.int .i64 0))
          have HT2 := Lib.hid (show (put6 w7 (w.heap.size + 1 + 1) (.bool s1) (.slice e1 d1 i1) (.slice e2 d2 i2) (.bool false) (.int .i64 0) (.int .i64 0)).cell? ⟨w.heap.size, 0, none⟩ = some (.bool s1) ∧ (put6 w7 (w.heap.size + 1 + 1) (.bool s1) (.slice e1 d1 i1) (.slice e2 d2 i2) (.bool false) (.int .i64 0) (.int .i64 0)).cell? ⟨w.heap.size, 1, none⟩ = some (.slice a1 l1 c1) ∧ (put6 w7 (w.heap.size + 1 + 1) (.bool s1) (.slice e1 d1 i1) (.slice e2 d2 i2) (.bool false) (.int .i64 0) (.int .i64 0)).cell? ⟨w.heap.size, 2, none⟩ = some (.slice a2 l2 c2) ∧ (put6 w7 (w.heap.size + 1 + 1) (.bool s1) (.slice e1 d1 i1) (.slice e2 d2 i2) (.bool false) (.int .i64 0) (.int .i64 0)).cell? ⟨w.heap.size + 1, 0, none⟩ = some (.bool s2) ∧ (put6 w7 (w.heap.size + 1 + 1) (.bool s1) (.slice e1 d1 i1) (.slice e2 d2 i2) (.bool false) (.int .i64 0) (.int .i64 0)).cell? ⟨w.heap.size + 1, 1, none⟩ = some (.slice b1 m1 k1) ∧ (put6 w7 (w.heap.size + 1 + 1) (.bool s1) (.slice e1 d1 i1) (.slice e2 d2 i2) (.bool false) (.int .i64 0) (.int .i64 0)).cell? ⟨w.heap.size + 1, 2, none⟩ = some (.slice b2 m2 k2) from ⟨(put6_cell (by omega) ..).trans H7.out.1.x.c0, (put6_cell (by omega) ..).trans H7.out.1.x.c1, (put6_cell (by omega) ..).trans H7.out.1.x.c2, (put6_cell (by omega) ..).trans H7.out.1.y.c0, (put6_cell (by omega) ..).trans H7.out.1.y.c1, (put6_cell (by omega) ..).trans H7.out.1.y.c2⟩)
          refine wpOp_step rfl (fun K' hK => ?_)
          go_simp
          refine hK _ _ ⟨fun _ _ => trivial, HT2.out, ?_⟩
          clear hK
          refine ⟨by kernel_rfl, ?_⟩
          go_wp2_with fail
          refine bodyPost_ret (v := .agg #[.bool s1, .slice e1 d1 i1, .slice e2 d2 i2, .bool false, .int .i64 0, .int .i64 0]) (by simp [results, Tryz.results106, go_sem, *]) rfl ?_
          exact ⟨s1, e1, d1, i1, e2, d2, i2, false, 0, 0, (N1 * D2 - N2 * D1), (D1 * D2), rfl, HF.out, ⟨HBX.out.2.1, Nat.lt_of_lt_of_le (mul_bits HP.out.2.1 HP.out.2.2.2.1) (Nat.pow_le_pow_right (by omega) (by omega))⟩, ⟨H7.out.2.2.2.1, H6n.out⟩, HBL.out⟩
    · go_enter Tryz.func106, Tryz.ntmps106
      go_upto_region 5 with fail
      obtain ⟨wB, hwB⟩ : ∃ w', (((w.alloc (.cells #[.bool s1, .slice a1 l1 c1, .slice a2 l2 c2, .bool true, .int .i64 p1, .int .i64 q1] 55)).alloc (.cells #[.bool s2, .slice b1 m1 k1, .slice b2 m2 k2, .bool false, .int .i64 p2, .int .i64 q2] 55)).alloc (.cells #[.bool false, .slice none 0 0, .slice none 0 0, .bool false, .int .i64 0, .int .i64 0] 55)) = w' := ⟨_, rfl⟩
      have HB := Lib.hid H0.out
      rw [hwB] at HB
      rw [hwB]
      clear hwB H0
      obtain ⟨x0, x1, x2, x3, x4, x5, _, _, _, _, _, _, x6⟩ := HB.out.x
      obtain ⟨y0, y1, y2, y3, y4, y5, _, _, _, _, _, _, y6⟩ := HB.out.y
      go_wp2_with fail
      refine (bigTimes_any N1 D2 a1 b2 l1 m2 c1 k2 wB (by omega) (by omega) HB.out.v1.n HB.out.v2.d).mono ?_
      rintro e w4 ⟨x7, c7, l7, rfl, hb7, hc7, hbl7, hnw7⟩
      have hl7 := big_lt (k := 200000) hb7 (mul_bits HP.out.1 HP.out.2.2.2.1) (by omega)
      have H4 := Lib.hid (And.intro (HB.out.all hbl7) hb7)
      clear hb7 hbl7 hnw7 x0 x1 x2 x3 x4 x5 x6 y0 y1 y2 y3 y4 y5 y6 HB
      obtain ⟨x0, x1, x2, x3, x4, x5, _, _, _, _, _, _, x6⟩ := H4.out.1.x
      obtain ⟨y0, y1, y2, y3, y4, y5, _, _, _, _, _, _, y6⟩ := H4.out.1.y
      go_wp2_with fail
      refine (bigTimes_any N2 D1 b1 a2 m1 l2 k1 c2 w4 (by omega) (by omega) H4.out.1.v2.n H4.out.1.v1.d).mono ?_
      rintro e w5 ⟨x8, c8, l8, rfl, hb8, hc8, hbl8, hnw8⟩
      have hl8 := big_lt (k := 200000) hb8 (mul_bits HP.out.2.2.1 HP.out.2.1) (by omega)
      have H5 := Lib.hid (And.intro (H4.out.1.all hbl8) (And.intro (H4.out.2.below hbl8) hb8))
      clear hb8 hbl8 hnw8 x0 x1 x2 x3 x4 x5 x6 y0 y1 y2 y3 y4 y5 y6 H4
      obtain ⟨x0, x1, x2, x3, x4, x5, _, _, _, _, _, _, x6⟩ := H5.out.1.x
      obtain ⟨y0, y1, y2, y3, y4, y5, _, _, _, _, _, _, y6⟩ := H5.out.1.y
      go_wp2_with fail
      refine (bigTimes_any D1 D2 a2 b2 l2 m2 c2 k2 w5 (by omega) (by omega) H5.out.1.v1.d H5.out.1.v2.d).mono ?_
      rintro e wC ⟨e2, i2, d2, rfl, hb9, hc9, hbl9, hnw9⟩
      have HN6 := Lib.hid (hnw9.ne (b := w.heap.size + 1 + 1) H5.out.1.z.lt)
      have H6n := Lib.hid (hnw9.le H5.out.1.bel.size)
      have H6c := Lib.hid hc9
      have HZ := Lib.hid (And.intro (H5.out.1.all hbl9) (And.intro (H5.out.2.1.below hbl9) (And.intro (H5.out.2.2.below hbl9) hb9)))
      clear hb9 hbl9 hnw9 hc9 x0 x1 x2 x3 x4 x5 x6 y0 y1 y2 y3 y4 y5 y6 H5
      obtain ⟨x0, x1, x2, x3, x4, x5, _, _, _, _, _, _, x6⟩ := HZ.out.1.x
      obtain ⟨y0, y1, y2, y3, y4, y5, _, _, _, _, _, _, y6⟩ := HZ.out.1.y
      have HVA := Lib.hid (wide_add_val HP.out.2.2.2.2.1 HP.out.2.2.2.2.2 HVL.out.1 HVL.out.2)
      have HBX := Lib.hid (add_bits (mul_bits HP.out.1 HP.out.2.2.2.1) (mul_bits HP.out.2.2.1 HP.out.2.1) (show x + y + 1 ≤ x + y + 61 by omega) (show y + x = x + y by omega))
      by_cases hs : s1 = s2
      · subst hs
        go_wp2_with fail
        clear x0 x1 x2 x3 x4 x5 x6 y0 y1 y2 y3 y4 y5 y6
        have HZd := Lib.hid (And.intro (HZ.out.1.all (Below.refl _ wC).drew) (And.intro (HZ.out.2.1.below (Below.refl _ wC).drew) (And.intro (HZ.out.2.2.1.below (Below.refl _ wC).drew) (HZ.out.2.2.2.below (Below.refl _ wC).drew))))
        refine wp_region_any (by kernel_rfl) (any_of_K (k := 7) (S := fun w' => True) (T := fun w' => w'.cell? ⟨w.heap.size, 0, none⟩ = some (.bool s1) ∧ w'.cell? ⟨w.heap.size, 1, none⟩ = some (.slice a1 l1 c1) ∧ w'.cell? ⟨w.heap.size, 2, none⟩ = some (.slice a2 l2 c2) ∧ w'.cell? ⟨w.heap.size + 1, 0, none⟩ = some (.bool s1) ∧ w'.cell? ⟨w.heap.size + 1, 1, none⟩ = some (.slice b1 m1 k1) ∧ w'.cell? ⟨w.heap.size + 1, 2, none⟩ = some (.slice b2 m2 k2)) _ _ _ _ ?_)
        have hS : True := trivial
        have hT : wC.drew.cell? ⟨w.heap.size, 0, none⟩ = some (.bool s1) ∧ wC.drew.cell? ⟨w.heap.size, 1, none⟩ = some (.slice a1 l1 c1) ∧ wC.drew.cell? ⟨w.heap.size, 2, none⟩ = some (.slice a2 l2 c2) ∧ wC.drew.cell? ⟨w.heap.size + 1, 0, none⟩ = some (.bool s1) ∧ wC.drew.cell? ⟨w.heap.size + 1, 1, none⟩ = some (.slice b1 m1 k1) ∧ wC.drew.cell? ⟨w.heap.size + 1, 2, none⟩ = some (.slice b2 m2 k2) := ⟨HZd.out.1.x.c0, HZd.out.1.x.c1, HZd.out.1.x.c2, HZd.out.1.y.c0, HZd.out.1.y.c1, HZd.out.1.y.c2⟩
        refine anyT_take (i := 0) (n := 7) (v := .pointer (some ⟨w.heap.size, 0, none⟩)) rfl (by decide) (by kernel_rfl) (by kernel_rfl) (by kernel_rfl) (fun _ _ _ h => h) (Or.inl ⟨by kernel_rfl, fun w' hw => by go_simp⟩) hS hT ?_
        refine anyT_take (i := 1) (n := 6) (v := .bool s1) rfl (by decide) (by kernel_rfl) (by kernel_rfl) (by kernel_rfl) (fun _ _ _ h => h) (Or.inl ⟨by kernel_rfl, fun w' hw => by (obtain ⟨u1, u2, u3, u4, u5, u6⟩ := hw; go_simp)⟩) hS hT ?_
        refine anyT_take (i := 2) (n := 5) (v := .slice x7 l7 c7) rfl (by decide) (by kernel_rfl) (by kernel_rfl) (by kernel_rfl) (fun _ _ _ h => h) (Or.inl ⟨by kernel_rfl, fun w' hw => by go_simp⟩) hS hT ?_
        refine anyT_take (i := 3) (n := 4) (v := .slice x8 l8 c8) rfl (by decide) (by kernel_rfl) (by kernel_rfl) (by kernel_rfl) (fun _ _ _ h => h) (Or.inl ⟨by kernel_rfl, fun w' hw => by go_simp⟩) hS hT ?_
        refine anyT_take (i := 5) (n := 3) (v := .slice e2 d2 i2) rfl (by decide) (by kernel_rfl) (by kernel_rfl) (by kernel_rfl) (fun _ _ _ h => h) (Or.inl ⟨by kernel_rfl, fun w' hw => by go_simp⟩) hS hT ?_
        clear hT
        refine anyK_all (n := 2) (rs := [4]) (by kernel_rfl) (by simp) (fun i hi => ?_)
        simp only [List.mem_cons, List.not_mem_nil, or_false] at hi
        obtain rfl := hi
        refine wpOp_step rfl (fun K' hK => ?_)
        go_simp
        refine (bigPlus_any (N1 * D2) (N2 * D1) x7 x8 l7 l8 c7 c8 wC.drew (by omega) (by omega) HZd.out.2.1 HZd.out.2.2.1).mono ?_
        rintro e w7 ⟨e1, i1, d1, rfl, hb7, hc7, hbl7, hnw7⟩
        have H7 := Lib.hid (And.intro (HZd.out.1.all hbl7) (And.intro hb7 (And.intro hc7 (And.intro (hnw7.le HZd.out.1.bel.size) (HZd.out.2.2.2.below hbl7)))))
        have HN7 := Lib.hid (hnw7.ne (b := w.heap.size + 1 + 1) HZd.out.1.z.lt)
        have hT : w7.cell? ⟨w.heap.size, 0, none⟩ = some (.bool s1) ∧ w7.cell? ⟨w.heap.size, 1, none⟩ = some (.slice a1 l1 c1) ∧ w7.cell? ⟨w.heap.size, 2, none⟩ = some (.slice a2 l2 c2) ∧ w7.cell? ⟨w.heap.size + 1, 0, none⟩ = some (.bool s1) ∧ w7.cell? ⟨w.heap.size + 1, 1, none⟩ = some (.slice b1 m1 k1) ∧ w7.cell? ⟨w.heap.size + 1, 2, none⟩ = some (.slice b2 m2 k2) := ⟨H7.out.1.x.c0, H7.out.1.x.c1, H7.out.1.x.c2, H7.out.1.y.c0, H7.out.1.y.c1, H7.out.1.y.c2⟩
        refine hK _ _ ⟨fun _ _ => trivial, hT, ?_⟩
        clear hK hb7 hc7 hbl7 hnw7 HZd HZ
        refine anyT_take (i := 6) (n := 1) (v := .agg #[.bool s1, .slice e1 d1 i1, .slice e2 d2 i2, .bool false, .int .i64 0, .int .i64 0]) rfl (by decide) (by kernel_rfl) (by kernel_rfl) (by kernel_rfl) (fun _ _ _ h => h) (Or.inl ⟨by kernel_rfl, fun w' hw => by go_simp⟩) hS hT ?_
        clear hT
        refine anyK_all (n := 0) (rs := [7]) (by kernel_rfl) (by simp) (fun i hi => ?_)
        simp only [List.mem_cons, List.not_mem_nil, or_false] at hi
        obtain rfl := hi
        obtain ⟨z0, z1, z2, z3, z4, z5, g0', g1', g2', g3', g4', g5', z6⟩ := H7.out.1.z
        have HF := Lib.hid (show WvI (put6 w7 (w.heap.size + 1 + 1) (.bool s1) (.slice e1 d1 i1) (.slice e2 d2 i2) (.bool false) (.int .i64 0) (.int .i64 0)) e1 e2 d1 i1 d2 i2 s1 false 0 0 (N1 * D2 + N2 * D1) (D1 * D2) (r + s) from ⟨isBig_put H7.out.2.1 HN7.out _ _ _ _ _ _, isBig_put H7.out.2.2.2.2 HN6.out _ _ _ _ _ _, H7.out.2.2.1, H6c.out, Nat.mul_ne_zero HP.out.2.2.2.2.1 HP.out.2.2.2.2.2, by rw [wide_add_same]; exact HVA.out, fun h => by cases h⟩)
        have HBL := Lib.hid (put6_below H7.out.1.bel (by omega : w.heap.size ≤ w.heap.size + 1 + 1) (.bool s1) (.slice e1 d1 i1) (.slice e2 d2 i2) (.bool false) (.int .i64 0) (.int .i64 0))
        have HT2 := Lib.hid (show (put6 w7 (w.heap.size + 1 + 1) (.bool s1) (.slice e1 d1 i1) (.slice e2 d2 i2) (.bool false) (.int .i64 0) (.int .i64 0)).cell? ⟨w.heap.size, 0, none⟩ = some (.bool s1) ∧ (put6 w7 (w.heap.size + 1 + 1) (.bool s1) (.slice e1 d1 i1) (.slice e2 d2 i2) (.bool false) (.int .i64 0) (.int .i64 0)).cell? ⟨w.heap.size, 1, none⟩ = some (.slice a1 l1 c1) ∧ (put6 w7 (w.heap.size + 1 + 1) (.bool s1) (.slice e1 d1 i1) (.slice e2 d2 i2) (.bool false) (.int .i64 0) (.int .i64 0)).cell? ⟨w.heap.size, 2, none⟩ = some (.slice a2 l2 c2) ∧ (put6 w7 (w.heap.size + 1 + 1) (.bool s1) (.slice e1 d1 i1) (.slice e2 d2 i2) (.bool false) (.int .i64 0) (.int .i64 0)).cell? ⟨w.heap.size + 1, 0, none⟩ = some (.bool s1) ∧ (put6 w7 (w.heap.size + 1 + 1) (.bool s1) (.slice e1 d1 i1) (.slice e2 d2 i2) (.bool false) (.int .i64 0) (.int .i64 0)).cell? ⟨w.heap.size + 1, 1, none⟩ = some (.slice b1 m1 k1) ∧ (put6 w7 (w.heap.size + 1 + 1) (.bool s1) (.slice e1 d1 i1) (.slice e2 d2 i2) (.bool false) (.int .i64 0) (.int .i64 0)).cell? ⟨w.heap.size + 1, 2, none⟩ = some (.slice b2 m2 k2) from ⟨(put6_cell (by omega) ..).trans H7.out.1.x.c0, (put6_cell (by omega) ..).trans H7.out.1.x.c1, (put6_cell (by omega) ..).trans H7.out.1.x.c2, (put6_cell (by omega) ..).trans H7.out.1.y.c0, (put6_cell (by omega) ..).trans H7.out.1.y.c1, (put6_cell (by omega) ..).trans H7.out.1.y.c2⟩)
        refine wpOp_step rfl (fun K' hK => ?_)
        go_simp
        refine hK _ _ ⟨fun _ _ => trivial, HT2.out, ?_⟩
        clear hK
        refine ⟨by kernel_rfl, ?_⟩
        go_wp2_with fail
        refine bodyPost_ret (v := .agg #[.bool s1, .slice e1 d1 i1, .slice e2 d2 i2, .bool false, .int .i64 0, .int .i64 0]) (by simp [results, Tryz.results106, go_sem, *]) rfl ?_
        exact ⟨s1, e1, d1, i1, e2, d2, i2, false, 0, 0, (N1 * D2 + N2 * D1), (D1 * D2), rfl, HF.out, ⟨HBX.out.1, Nat.lt_of_lt_of_le (mul_bits HP.out.2.1 HP.out.2.2.2.1) (Nat.pow_le_pow_right (by omega) (by omega))⟩, ⟨H7.out.2.2.2.1, H6n.out⟩, HBL.out⟩
      · have hse : (s1 == s2) = false := by rw [beq_eq_false_iff_ne]; exact hs
        have HNE := Lib.hid hs
        clear hs
        by_cases hlt : N1 * D2 < N2 * D1
        · have HLT := Lib.hid hlt
          have HCM := Lib.hid (bigCmp_any (N1 * D2) (N2 * D1) x7 x8 l7 l8 c7 c8 wC (by omega) (by omega) HZ.out.2.1 HZ.out.2.2.1)
          obtain ⟨zz, hzz⟩ : ∃ z, cmpN (N1 * D2) (N2 * D1) = z := ⟨_, rfl⟩
          have hz0 : zz < (0:Int) := by rw [← hzz]; unfold cmpN; rw [if_pos hlt]; omega
          rw [hzz] at HCM
          clear hzz hlt
          go_wp2_with fail
          refine HCM.out.mono ?_
          rintro e wD ⟨rfl, hbD⟩
          have HZ2 := Lib.hid (And.intro (HZ.out.1.all hbD) (And.intro (HZ.out.2.1.below hbD) (And.intro (HZ.out.2.2.1.below hbD) (HZ.out.2.2.2.below hbD))))
          clear hbD HZ HCM x0 x1 x2 x3 x4 x5 x6 y0 y1 y2 y3 y4 y5 y6
          go_wp2_with fail
          have HZd := Lib.hid (And.intro (HZ2.out.1.all (Below.refl _ wD).drew) (And.intro (HZ2.out.2.1.below (Below.refl _ wD).drew) (And.intro (HZ2.out.2.2.1.below (Below.refl _ wD).drew) (HZ2.out.2.2.2.below (Below.refl _ wD).drew))))
          refine wp_region_any (by kernel_rfl) (any_of_K (k := 7) (S := fun w' => True) (T := fun w' => w'.cell? ⟨w.heap.size, 0, none⟩ = some (.bool s1) ∧ w'.cell? ⟨w.heap.size, 1, none⟩ = some (.slice a1 l1 c1) ∧ w'.cell? ⟨w.heap.size, 2, none⟩ = some (.slice a2 l2 c2) ∧ w'.cell? ⟨w.heap.size + 1, 0, none⟩ = some (.bool s2) ∧ w'.cell? ⟨w.heap.size + 1, 1, none⟩ = some (.slice b1 m1 k1) ∧ w'.cell? ⟨w.heap.size + 1, 2, none⟩ = some (.slice b2 m2 k2)) _ _ _ _ ?_)
          have hS : True := trivial
          have hT : wD.drew.cell? ⟨w.heap.size, 0, none⟩ = some (.bool s1) ∧ wD.drew.cell? ⟨w.heap.size, 1, none⟩ = some (.slice a1 l1 c1) ∧ wD.drew.cell? ⟨w.heap.size, 2, none⟩ = some (.slice a2 l2 c2) ∧ wD.drew.cell? ⟨w.heap.size + 1, 0, none⟩ = some (.bool s2) ∧ wD.drew.cell? ⟨w.heap.size + 1, 1, none⟩ = some (.slice b1 m1 k1) ∧ wD.drew.cell? ⟨w.heap.size + 1, 2, none⟩ = some (.slice b2 m2 k2) := ⟨HZd.out.1.x.c0, HZd.out.1.x.c1, HZd.out.1.x.c2, HZd.out.1.y.c0, HZd.out.1.y.c1, HZd.out.1.y.c2⟩
          refine anyT_take (i := 0) (n := 7) (v := .pointer (some ⟨w.heap.size + 1, 0, none⟩)) rfl (by decide) (by kernel_rfl) (by kernel_rfl) (by kernel_rfl) (fun _ _ _ h => h) (Or.inl ⟨by kernel_rfl, fun w' hw => by go_simp⟩) hS hT ?_
          refine anyT_take (i := 1) (n := 6) (v := .bool s2) rfl (by decide) (by kernel_rfl) (by kernel_rfl) (by kernel_rfl) (fun _ _ _ h => h) (Or.inl ⟨by kernel_rfl, fun w' hw => by (obtain ⟨u1, u2, u3, u4, u5, u6⟩ := hw; go_simp)⟩) hS hT ?_
          refine anyT_take (i := 2) (n := 5) (v := .slice x8 l8 c8) rfl (by decide) (by kernel_rfl) (by kernel_rfl) (by kernel_rfl) (fun _ _ _ h => h) (Or.inl ⟨by kernel_rfl, fun w' hw => by go_simp⟩) hS hT ?_
          refine anyT_take (i := 3) (n := 4) (v := .slice x7 l7 c7) rfl (by decide) (by kernel_rfl) (by kernel_rfl) (by kernel_rfl) (fun _ _ _ h => h) (Or.inl ⟨by kernel_rfl, fun w' hw => by go_simp⟩) hS hT ?_
          refine anyT_take (i := 5) (n := 3) (v := .slice e2 d2 i2) rfl (by decide) (by kernel_rfl) (by kernel_rfl) (by kernel_rfl) (fun _ _ _ h => h) (Or.inl ⟨by kernel_rfl, fun w' hw => by go_simp⟩) hS hT ?_
          clear hT
          refine anyK_all (n := 2) (rs := [4]) (by kernel_rfl) (by simp) (fun i hi => ?_)
          simp only [List.mem_cons, List.not_mem_nil, or_false] at hi
          obtain rfl := hi
          refine wpOp_step rfl (fun K' hK => ?_)
          go_simp
          refine (bigMinus_any (N2 * D1) (N1 * D2) x8 x7 l8 l7 c8 c7 wD.drew (by omega) (Nat.le_of_lt HLT.out) HZd.out.2.2.1 HZd.out.2.1).mono ?_
          rintro e w7 ⟨e1, i1, d1, rfl, hb7, hc7, hbl7, hnw7⟩
          have H7 := Lib.hid (And.intro (HZd.out.1.all hbl7) (And.intro hb7 (And.intro hc7 (And.intro (hnw7.le HZd.out.1.bel.size) (HZd.out.2.2.2.below hbl7)))))
          have HN7 := Lib.hid (hnw7.ne (b := w.heap.size + 1 + 1) HZd.out.1.z.lt)
          have hT : w7.cell? ⟨w.heap.size, 0, none⟩ = some (.bool s1) ∧ w7.cell? ⟨w.heap.size, 1, none⟩ = some (.slice a1 l1 c1) ∧ w7.cell? ⟨w.heap.size, 2, none⟩ = some (.slice a2 l2 c2) ∧ w7.cell? ⟨w.heap.size + 1, 0, none⟩ = some (.bool s2) ∧ w7.cell? ⟨w.heap.size + 1, 1, none⟩ = some (.slice b1 m1 k1) ∧ w7.cell? ⟨w.heap.size + 1, 2, none⟩ = some (.slice b2 m2 k2) := ⟨H7.out.1.x.c0, H7.out.1.x.c1, H7.out.1.x.c2, H7.out.1.y.c0, H7.out.1.y.c1, H7.out.1.y.c2⟩
          refine hK _ _ ⟨fun _ _ => trivial, hT, ?_⟩
          clear hK hb7 hc7 hbl7 hnw7 HZd HZ2
          refine anyT_take (i := 6) (n := 1) (v := .agg #[.bool s2, .slice e1 d1 i1, .slice e2 d2 i2, .bool false, .int .i64 0, .int .i64 0]) rfl (by decide) (by kernel_rfl) (by kernel_rfl) (by kernel_rfl) (fun _ _ _ h => h) (Or.inl ⟨by kernel_rfl, fun w' hw => by go_simp⟩) hS hT ?_
          clear hT
          refine anyK_all (n := 0) (rs := [7]) (by kernel_rfl) (by simp) (fun i hi => ?_)
          simp only [List.mem_cons, List.not_mem_nil, or_false] at hi
          obtain rfl := hi
          obtain ⟨z0, z1, z2, z3, z4, z5, g0', g1', g2', g3', g4', g5', z6⟩ := H7.out.1.z
          have HF := Lib.hid (show WvI (put6 w7 (w.heap.size + 1 + 1) (.bool s2) (.slice e1 d1 i1) (.slice e2 d2 i2) (.bool false) (.int .i64 0) (.int .i64 0)) e1 e2 d1 i1 d2 i2 s2 false 0 0 (N2 * D1 - N1 * D2) (D1 * D2) (r + s) from ⟨isBig_put H7.out.2.1 HN7.out _ _ _ _ _ _, isBig_put H7.out.2.2.2.2 HN6.out _ _ _ _ _ _, H7.out.2.2.1, H6c.out, Nat.mul_ne_zero HP.out.2.2.2.2.1 HP.out.2.2.2.2.2, by rw [wide_add_lt HNE.out HLT.out]; exact HVA.out, fun h => by cases h⟩)
          have HBL := Lib.hid (put6_below H7.out.1.bel (by omega : w.heap.size ≤ w.heap.size + 1 + 1) (.bool s2) (.slice e1 d1 i1) (.slice e2 d2 i2) (.bool false) (.int .i64 0) (.int .i64 0))
          have HT2 := Lib.hid (show (put6 w7 (w.heap.size + 1 + 1) (.bool s2) (.slice e1 d1 i1) (.slice e2 d2 i2) (.bool false) (.int .i64 0) (.int .i64 0)).cell? ⟨w.heap.size, 0, none⟩ = some (.bool s1) ∧ (put6 w7 (w.heap.size + 1 + 1) (.bool s2) (.slice e1 d1 i1) (.slice e2 d2 i2) (.bool false) (.int .i64 0) (.int .i64 0)).cell? ⟨w.heap.size, 1, none⟩ = some (.slice a1 l1 c1) ∧ (put6 w7 (w.heap.size + 1 + 1) (.bool s2) (.slice e1 d1 i1) (.slice e2 d2 i2) (.bool false) (.int .i64 0) (.int .i64 0)).cell? ⟨w.heap.size, 2, none⟩ = some (.slice a2 l2 c2) ∧ (put6 w7 (w.heap.size + 1 + 1) (.bool s2) (.slice e1 d1 i1) (.slice e2 d2 i2) (.bool false) (.int .i64 0) (.int .i64 0)).cell? ⟨w.heap.size + 1, 0, none⟩ = some (.bool s2) ∧ (put6 w7 (w.heap.size + 1 + 1) (.bool s2) (.slice e1 d1 i1) (.slice e2 d2 i2) (.bool false) (.int .i64 0) (.int .i64 0)).cell? ⟨w.heap.size + 1, 1, none⟩ = some (.slice b1 m1 k1) ∧ (put6 w7 (w.heap.size + 1 + 1) (.bool s2) (.slice e1 d1 i1) (.slice e2 d2 i2) (.bool false) (.int .i64 0) (.int .i64 0)).cell? ⟨w.heap.size + 1, 2, none⟩ = some (.slice b2 m2 k2) from ⟨(put6_cell (by omega) ..).trans H7.out.1.x.c0, (put6_cell (by omega) ..).trans H7.out.1.x.c1, (put6_cell (by omega) ..).trans H7.out.1.x.c2, (put6_cell (by omega) ..).trans H7.out.1.y.c0, (put6_cell (by omega) ..).trans H7.out.1.y.c1, (put6_cell (by omega) ..).trans H7.out.1.y.c2⟩)
          refine wpOp_step rfl (fun K' hK => ?_)
          go_simp
          refine hK _ _ ⟨fun _ _ => trivial, HT2.out, ?_⟩
          clear hK
          refine ⟨by kernel_rfl, ?_⟩
          go_wp2_with fail
          refine bodyPost_ret (v := .agg #[.bool s2, .slice e1 d1 i1, .slice e2 d2 i2, .bool false, .int .i64 0, .int .i64 0]) (by simp [results, Tryz.results106, go_sem, *]) rfl ?_
          exact ⟨s2, e1, d1, i1, e2, d2, i2, false, 0, 0, (N2 * D1 - N1 * D2), (D1 * D2), rfl, HF.out, ⟨HBX.out.2.2, Nat.lt_of_lt_of_le (mul_bits HP.out.2.1 HP.out.2.2.2.1) (Nat.pow_le_pow_right (by omega) (by omega))⟩, ⟨H7.out.2.2.2.1, H6n.out⟩, HBL.out⟩
        · have HLT := Lib.hid hlt
          have HCM := Lib.hid (bigCmp_any (N1 * D2) (N2 * D1) x7 x8 l7 l8 c7 c8 wC (by omega) (by omega) HZ.out.2.1 HZ.out.2.2.1)
          obtain ⟨zz, hzz⟩ : ∃ z, cmpN (N1 * D2) (N2 * D1) = z := ⟨_, rfl⟩
          have hz0 : ¬ zz < (0:Int) := by rw [← hzz]; unfold cmpN; rw [if_neg hlt]; split <;> omega
          rw [hzz] at HCM
          clear hzz hlt
          go_wp2_with fail
          refine HCM.out.mono ?_
          rintro e wD ⟨rfl, hbD⟩
          have HZ2 := Lib.hid (And.intro (HZ.out.1.all hbD) (And.intro (HZ.out.2.1.below hbD) (And.intro (HZ.out.2.2.1.below hbD) (HZ.out.2.2.2.below hbD))))
          clear hbD HZ HCM x0 x1 x2 x3 x4 x5 x6 y0 y1 y2 y3 y4 y5 y6
          go_wp2_with fail
          have HZd := Lib.hid (And.intro (HZ2.out.1.all (Below.refl _ wD).drew) (And.intro (HZ2.out.2.1.below (Below.refl _ wD).drew) (And.intro (HZ2.out.2.2.1.below (Below.refl _ wD).drew) (HZ2.out.2.2.2.below (Below.refl _ wD).drew))))
          refine wp_region_any (by kernel_rfl) (any_of_K (k := 7) (S := fun w' => True) (T := fun w' => w'.cell? ⟨w.heap.size, 0, none⟩ = some (.bool s1) ∧ w'.cell? ⟨w.heap.size, 1, none⟩ = some (.slice a1 l1 c1) ∧ w'.cell? ⟨w.heap.size, 2, none⟩ = some (.slice a2 l2 c2) ∧ w'.cell? ⟨w.heap.size + 1, 0, none⟩ = some (.bool s2) ∧ w'.cell? ⟨w.heap.size + 1, 1, none⟩ = some (.slice b1 m1 k1) ∧ w'.cell? ⟨w.heap.size + 1, 2, none⟩ = some (.slice b2 m2 k2)) _ _ _ _ ?_)
          have hS : True := trivial
          have hT : wD.drew.cell? ⟨w.heap.size, 0, none⟩ = some (.bool s1) ∧ wD.drew.cell? ⟨w.heap.size, 1, none⟩ = some (.slice a1 l1 c1) ∧ wD.drew.cell? ⟨w.heap.size, 2, none⟩ = some (.slice a2 l2 c2) ∧ wD.drew.cell? ⟨w.heap.size + 1, 0, none⟩ = some (.bool s2) ∧ wD.drew.cell? ⟨w.heap.size + 1, 1, none⟩ = some (.slice b1 m1 k1) ∧ wD.drew.cell? ⟨w.heap.size + 1, 2, none⟩ = some (.slice b2 m2 k2) := ⟨HZd.out.1.x.c0, HZd.out.1.x.c1, HZd.out.1.x.c2, HZd.out.1.y.c0, HZd.out.1.y.c1, HZd.out.1.y.c2⟩
          refine anyT_take (i := 0) (n := 7) (v := .pointer (some ⟨w.heap.size, 0, none⟩)) rfl (by decide) (by kernel_rfl) (by kernel_rfl) (by kernel_rfl) (fun _ _ _ h => h) (Or.inl ⟨by kernel_rfl, fun w' hw => by go_simp⟩) hS hT ?_
          refine anyT_take (i := 1) (n := 6) (v := .bool s1) rfl (by decide) (by kernel_rfl) (by kernel_rfl) (by kernel_rfl) (fun _ _ _ h => h) (Or.inl ⟨by kernel_rfl, fun w' hw => by (obtain ⟨u1, u2, u3, u4, u5, u6⟩ := hw; go_simp)⟩) hS hT ?_
          refine anyT_take (i := 2) (n := 5) (v := .slice x7 l7 c7) rfl (by decide) (by kernel_rfl) (by kernel_rfl) (by kernel_rfl) (fun _ _ _ h => h) (Or.inl ⟨by kernel_rfl, fun w' hw => by go_simp⟩) hS hT ?_
          refine anyT_take (i := 3) (n := 4) (v := .slice x8 l8 c8) rfl (by decide) (by kernel_rfl) (by kernel_rfl) (by kernel_rfl) (fun _ _ _ h => h) (Or.inl ⟨by kernel_rfl, fun w' hw => by go_simp⟩) hS hT ?_
          refine anyT_take (i := 5) (n := 3) (v := .slice e2 d2 i2) rfl (by decide) (by kernel_rfl) (by kernel_rfl) (by kernel_rfl) (fun _ _ _ h => h) (Or.inl ⟨by kernel_rfl, fun w' hw => by go_simp⟩) hS hT ?_
          clear hT
          refine anyK_all (n := 2) (rs := [4]) (by kernel_rfl) (by simp) (fun i hi => ?_)
          simp only [List.mem_cons, List.not_mem_nil, or_false] at hi
          obtain rfl := hi
          refine wpOp_step rfl (fun K' hK => ?_)
          go_simp
          refine (bigMinus_any (N1 * D2) (N2 * D1) x7 x8 l7 l8 c7 c8 wD.drew (by omega) (Nat.le_of_not_lt HLT.out) HZd.out.2.1 HZd.out.2.2.1).mono ?_
          rintro e w7 ⟨e1, i1, d1, rfl, hb7, hc7, hbl7, hnw7⟩
          have H7 := Lib.hid (And.intro (HZd.out.1.all hbl7) (And.intro hb7 (And.intro hc7 (And.intro (hnw7.le HZd.out.1.bel.size) (HZd.out.2.2.2.below hbl7)))))
          have HN7 := Lib.hid (hnw7.ne (b := w.heap.size + 1 + 1) HZd.out.1.z.lt)
          have hT : w7.cell? ⟨w.heap.size, 0, none⟩ = some (.bool s1) ∧ w7.cell? ⟨w.heap.size, 1, none⟩ = some (.slice a1 l1 c1) ∧ w7.cell? ⟨w.heap.size, 2, none⟩ = some (.slice a2 l2 c2) ∧ w7.cell? ⟨w.heap.size + 1, 0, none⟩ = some (.bool s2) ∧ w7.cell? ⟨w.heap.size + 1, 1, none⟩ = some (.slice b1 m1 k1) ∧ w7.cell? ⟨w.heap.size + 1, 2, none⟩ = some (.slice b2 m2 k2) := ⟨H7.out.1.x.c0, H7.out.1.x.c1, H7.out.1.x.c2, H7.out.1.y.c0, H7.out.1.y.c1, H7.out.1.y.c2⟩
          refine hK _ _ ⟨fun _ _ => trivial, hT, ?_⟩
          clear hK hb7 hc7 hbl7 hnw7 HZd HZ2
          refine anyT_take (i := 6) (n := 1) (v := .agg #[.bool s1, .slice e1 d1 i1, .slice e2 d2 i2, .bool false, .int .i64 0, .int .i64 0]) rfl (by decide) (by kernel_rfl) (by kernel_rfl) (by kernel_rfl) (fun _ _ _ h => h) (Or.inl ⟨by kernel_rfl, fun w' hw => by go_simp⟩) hS hT ?_
          clear hT
          refine anyK_all (n := 0) (rs := [7]) (by kernel_rfl) (by simp) (fun i hi => ?_)
          simp only [List.mem_cons, List.not_mem_nil, or_false] at hi
          obtain rfl := hi
          obtain ⟨z0, z1, z2, z3, z4, z5, g0', g1', g2', g3', g4', g5', z6⟩ := H7.out.1.z
          have HF := Lib.hid (show WvI (put6 w7 (w.heap.size + 1 + 1) (.bool s1) (.slice e1 d1 i1) (.slice e2 d2 i2) (.bool false) (.int .i64 0) (.int .i64 0)) e1 e2 d1 i1 d2 i2 s1 false 0 0 (N1 * D2 - N2 * D1) (D1 * D2) (r + s) from ⟨isBig_put H7.out.2.1 HN7.out _ _ _ _ _ _, isBig_put H7.out.2.2.2.2 HN6.out _ _ _ _ _ _, H7.out.2.2.1, H6c.out, Nat.mul_ne_zero HP.out.2.2.2.2.1 HP.out.2.2.2.2.2, by rw [wide_add_ge HNE.out (Nat.le_of_not_lt HLT.out)]; exact HVA.out, fun h => by cases h⟩)
          have HBL := Lib.hid (put6_below H7.out.1.bel (by omega : w.heap.size ≤ w.heap.size + 1 + 1) (.bool s1) (.slice e1 d1 i1) (.slice e2 d2 i2) (.bool false) (.int .i64 0) (.int .i64 0))
          have HT2 := Lib.hid (show (put6 w7 (w.heap.size + 1 + 1) (.bool s1) (.slice e1 d1 i1) (.slice e2 d2 i2) (.bool false) (.int .i64 0) (.int .i64 0)).cell? ⟨w.heap.size, 0, none⟩ = some (.bool s1) ∧ (put6 w7 (w.heap.size + 1 + 1) (.bool s1) (.slice e1 d1 i1) (.slice e2 d2 i2) (.bool false) (.int .i64 0) (.int .i64 0)).cell? ⟨w.heap.size, 1, none⟩ = some (.slice a1 l1 c1) ∧ (put6 w7 (w.heap.size + 1 + 1) (.bool s1) (.slice e1 d1 i1) (.slice e2 d2 i2) (.bool false) (.int .i64 0) (.int .i64 0)).cell? ⟨w.heap.size, 2, none⟩ = some (.slice a2 l2 c2) ∧ (put6 w7 (w.heap.size + 1 + 1) (.bool s1) (.slice e1 d1 i1) (.slice e2 d2 i2) (.bool false) (.int .i64 0) (.int .i64 0)).cell? ⟨w.heap.size + 1, 0, none⟩ = some (.bool s2) ∧ (put6 w7 (w.heap.size + 1 + 1) (.bool s1) (.slice e1 d1 i1) (.slice e2 d2 i2) (.bool false) (.int .i64 0) (.int .i64 0)).cell? ⟨w.heap.size + 1, 1, none⟩ = some (.slice b1 m1 k1) ∧ (put6 w7 (w.heap.size + 1 + 1) (.bool s1) (.slice e1 d1 i1) (.slice e2 d2 i2) (.bool false) (.int .i64 0) (.int .i64 0)).cell? ⟨w.heap.size + 1, 2, none⟩ = some (.slice b2 m2 k2) from ⟨(put6_cell (by omega) ..).trans H7.out.1.x.c0, (put6_cell (by omega) ..).trans H7.out.1.x.c1, (put6_cell (by omega) ..).trans H7.out.1.x.c2, (put6_cell (by omega) ..).trans H7.out.1.y.c0, (put6_cell (by omega) ..).trans H7.out.1.y.c1, (put6_cell (by omega) ..).trans H7.out.1.y.c2⟩)
          refine wpOp_step rfl (fun K' hK => ?_)
          go_simp
          refine hK _ _ ⟨fun _ _ => trivial, HT2.out, ?_⟩
          clear hK
          refine ⟨by kernel_rfl, ?_⟩
          go_wp2_with fail
          refine bodyPost_ret (v := .agg #[.bool s1, .slice e1 d1 i1, .slice e2 d2 i2, .bool false, .int .i64 0, .int .i64 0]) (by simp [results, Tryz.results106, go_sem, *]) rfl ?_
          exact ⟨s1, e1, d1, i1, e2, d2, i2, false, 0, 0, (N1 * D2 - N2 * D1), (D1 * D2), rfl, HF.out, ⟨HBX.out.2.1, Nat.lt_of_lt_of_le (mul_bits HP.out.2.1 HP.out.2.2.2.1) (Nat.pow_le_pow_right (by omega) (by omega))⟩, ⟨H7.out.2.2.2.1, H6n.out⟩, HBL.out⟩
end B30
end Go.Proofs.YtaneocedklnajaaGreat
/- The reference's fractions of any size: small numbers, lowest terms, and what is given back. No condition but bounds. -/
namespace Go.Proofs.YtaneocedklnajaaGreat
open Go.RowKit
set_option linter.unusedVariables false
namespace B30

theorem or_digit (m d : Nat) (h : d < 1073741824) : m * 1073741824 ||| d = m * 1073741824 + d := by
  have := Nat.shiftLeft_add_eq_or_of_lt (show d < 2 ^ 30 by omega) m
  rw [Nat.shiftLeft_eq] at this
  exact this.symm
theorem div_step30 (n k : Nat) : n / bse ^ k = n / bse ^ (k + 1) * 1073741824 + (digs n).getD k 0 := by
  rw [digs_getD, Nat.pow_succ, ← Nat.div_div_eq_div_mul, bse_eq]
  omega
/-- What both small numbers are. -/
def smV (n : Nat) : Value := if n ≤ 1000000000000000000 then .tuple #[.int .i64 ((n : Nat) : Int), .bool true] else .tuple #[.int .i64 0, .bool false]
set_option maxRecDepth 20000 in
set_option maxHeartbeats 1600000 in
theorem l05Small_any (n : Nat) (a : Option Addr) (l c : Nat) (w : World) (hb : l ≤ 1048576) (h : IsBig w a l n) :
    Calls Tryz.prog 104 #[.slice a l c] w (Ret w (smV n)) := by
  have HX := Lib.hid h
  have hlen := h.len
  clear h
  by_cases hl2 : l ≤ 2
  · have hn60 := dval_max (x := n) (by omega)
    have hli : ¬ (2:Int) < (l:Int) := by omega
    have HB := Lib.hid (fun w => bigOf_any 1000000000000000000 w (by omega))
    have HM := Lib.hid (digs_len_small (x := 1000000000000000000) (by omega))
    by_cases hn : n ≤ 1000000000000000000
    · have HV := Lib.hid (show smV n = .tuple #[.int .i64 ((n : Nat) : Int), .bool true] by unfold smV; rw [if_pos hn])
      have HC : Hid (∃ z : Int, cmpN n 1000000000000000000 = z ∧ ¬ (0:Int) < z) := Lib.hid ⟨_, rfl, by
        unfold cmpN
        rcases Nat.lt_or_ge n 1000000000000000000 with g | g
        · rw [if_pos g]; decide
        · rw [if_neg (by omega), if_neg (by omega)]; decide⟩
      have HLen := Lib.hid hlen
      clear hlen
      go_enter Tryz.func104, Tryz.ntmps104
      go_wp2_with fail
      refine (HB.out _).mono ?_
      rintro e w1 ⟨b1, k1, m1, rfl, hm, _, hb1, _⟩
      have hm1 : m1 ≤ 2 := by rw [← hm.len]; exact HM.out
      have H1 := Lib.hid (And.intro hm (And.intro (HX.out.below hb1) hb1))
      clear hm hb1
      obtain ⟨z, hz, hz0⟩ := HC.out
      have HCM := bigCmp_any n 1000000000000000000 a b1 l m1 c k1 w1 hb (by omega) H1.out.2.1 H1.out.1
      rw [hz] at HCM
      have HCM2 := Lib.hid HCM
      clear HCM hz
      go_wp2_with fail
      refine HCM2.out.mono ?_
      rintro e w2 ⟨rfl, hb2⟩
      have H2 := Lib.hid (And.intro (H1.out.2.1.below hb2) (bthen H1.out.2.2 hb2))
      clear hb2 H1 HCM2
      go_wp2_with fail
      go_loopw [5, 4] (fun v5 v4 wr => ∃ k : Nat, k ≤ l ∧ v5 = .int .i64 ((k : Int) - 1) ∧ v4 = .int .i64 ((n / bse ^ k : Nat) : Int) ∧ wr = w2) (fun v5 _ _ => (intOf v5 + 1).toNat)
      case atStart => exact ⟨l, Nat.le_refl _, rfl, by rw [Nat.div_eq_of_lt (by have := digs_lt n; rw [HLen.out] at this; exact this)]; rfl, rfl⟩
      case round =>
        obtain ⟨k, hk, rfl, rfl, rfl⟩ := hrel
        cases k with
        | zero =>
          rw [show ((0 : Nat) : Int) - 1 = -1 from rfl]
          have HE := Lib.hid (show n / bse ^ 0 = n by simp)
          go_wp2
          go_ret2
          refine ⟨?_, H2.out.2⟩
          rw [HV.out, HE.out]
          rfl
        | succ k =>
          rw [show ((k + 1 : Nat) : Int) - 1 = (k : Int) by omega]
          have hk0 : (0:Int) ≤ (k:Int) := by omega
          obtain ⟨b, off, rfl, e1⟩ := H2.out.1.at (show k < l by omega)
          obtain ⟨d, hd⟩ : ∃ d, (digs n).getD k 0 = d := ⟨_, rfl⟩
          have hdb := getD_lt n k
          have hst := div_step30 n k
          rw [hd] at e1 hdb hst
          obtain ⟨m, hm⟩ : ∃ m, n / bse ^ (k + 1) = m := ⟨_, rfl⟩
          rw [hm] at hst ⊢
          have hle : n / bse ^ k ≤ n := Nat.div_le_self _ _
          have hms : m * 1073741824 ≤ 1152921504606846976 := by omega
          have hor := or_i64 (m * 1073741824) d (by omega) (by omega)
          rw [or_digit m d hdb, ← hst] at hor
          have HST := Lib.hid hst
          clear hd hm hst hle
          go_wp2
          refine ⟨⟨k, by omega, rfl, ?_, trivial⟩, ?_⟩
          · rw [show ((m : Nat) : Int) * 1073741824 = ((m * 1073741824 : Nat) : Int) by omega, hor]
          · show ((k : Int) - 1 + 1).toNat < ((k : Int) + 1).toNat
            omega
    · have HV := Lib.hid (show smV n = .tuple #[.int .i64 0, .bool false] by unfold smV; rw [if_neg hn])
      have HC : Hid (∃ z : Int, cmpN n 1000000000000000000 = z ∧ (0:Int) < z) := Lib.hid ⟨_, rfl, by
        unfold cmpN
        rw [if_neg (by omega), if_pos (by omega)]; decide⟩
      go_enter Tryz.func104, Tryz.ntmps104
      go_wp2_with fail
      refine (HB.out _).mono ?_
      rintro e w1 ⟨b1, k1, m1, rfl, hm, _, hb1, _⟩
      have hm1 : m1 ≤ 2 := by rw [← hm.len]; exact HM.out
      have H1 := Lib.hid (And.intro hm (And.intro (HX.out.below hb1) hb1))
      clear hm hb1
      obtain ⟨z, hz, hz0⟩ := HC.out
      have HCM := bigCmp_any n 1000000000000000000 a b1 l m1 c k1 w1 hb (by omega) H1.out.2.1 H1.out.1
      rw [hz] at HCM
      have HCM2 := Lib.hid HCM
      clear HCM hz
      go_wp2_with fail
      refine HCM2.out.mono ?_
      rintro e w2 ⟨rfl, hb2⟩
      have H2 := Lib.hid (bthen H1.out.2.2 hb2)
      clear hb2 H1 HCM2
      go_wp2_with fail
      go_ret2
      refine ⟨?_, H2.out⟩
      rw [HV.out]
      try rfl
  · have hbig : ¬ n ≤ 1000000000000000000 := by
      intro hn
      have := digs_len_small (x := n) (by omega)
      omega
    have HV := Lib.hid (show smV n = .tuple #[.int .i64 0, .bool false] by unfold smV; rw [if_neg hbig])
    have hli : (2:Int) < (l:Int) := by omega
    clear hlen hbig
    go_enter Tryz.func104, Tryz.ntmps104
    go_wp2_with fail
    go_ret2
    refine ⟨?_, Below.refl _ w⟩
    rw [HV.out]
    try rfl
end B30
end Go.Proofs.YtaneocedklnajaaGreat
/- The reference's fractions of any size: lowest terms. No condition but bounds. -/
namespace Go.Proofs.YtaneocedklnajaaGreat
open Go.RowKit
set_option linter.unusedVariables false
namespace B30

/-- What lowest terms are. -/
def RetLow (w : World) (B : Nat) (r : Rat) (e : Ending) (w' : World) : Prop := ∃ sg a1 l1 c1 a2 l2 c2 fine p q, e = .returned (.agg #[.bool sg, .slice a1 l1 c1, .slice a2 l2 c2, .bool fine, .int .i64 p, .int .i64 q]) ∧ WvI w' a1 a2 l1 c1 l2 c2 sg fine p q r.num.natAbs r.den r ∧ (NewA B a1 ∧ NewA B a2) ∧ Below w.heap.size w w'
theorem sgn_abs (sg : Bool) (N : Nat) : (sgn sg N).natAbs = N := by cases sg <;> simp [sgn]
theorem low_num {sg : Bool} {N D : Nat} {r : Rat} (h : mkRat (sgn sg N) D = r) (hD : D ≠ 0) : N / N.gcd D = r.num.natAbs ∧ D / N.gcd D = r.den := by
  subst h
  have h1 := mk_abs (n := sgn sg N) hD
  have h2 := mk_den (n := sgn sg N) hD
  rw [sgn_abs] at h1 h2
  exact ⟨h1.symm, h2.symm⟩
theorem sgn_scale (sg : Bool) (a g : Nat) : sgn sg (a * g) = sgn sg a * (g : Int) := by cases sg <;> simp [sgn, Int.natCast_mul, Int.neg_mul]
theorem low_val {sg : Bool} {N D : Nat} {r : Rat} (h : mkRat (sgn sg N) D = r) (hD : D ≠ 0) : mkRat (sgn sg r.num.natAbs) r.den = r := by
  obtain ⟨h1, h2⟩ := low_num h hD
  have hd : r.den ≠ 0 := Nat.ne_of_gt r.den_pos
  refine Eq.trans ?_ h
  rw [Rat.mkRat_eq_iff hd hD]
  have e1 : r.num.natAbs * N.gcd D = N := by rw [← h1]; exact Nat.div_mul_cancel (Nat.gcd_dvd_left _ _)
  have e2 : r.den * N.gcd D = D := by rw [← h2]; exact Nat.div_mul_cancel (Nat.gcd_dvd_right _ _)
  have e3 : sgn sg N = sgn sg r.num.natAbs * ((N.gcd D : Nat) : Int) := by
    have e5 := sgn_scale sg r.num.natAbs (N.gcd D)
    rw [e1] at e5
    exact e5
  have e4 : (D : Int) = (r.den : Int) * ((N.gcd D : Nat) : Int) := by rw [← Int.natCast_mul, e2]
  rw [e3, e4, Int.mul_assoc, Int.mul_comm (r.den : Int)]
theorem low_fine {p q : Int} {r : Rat} (h : vF p q = true) (hr : mkRat p q.toNat = r) : p.natAbs = r.num.natAbs ∧ q.toNat = r.den := by
  obtain ⟨⟨hq1, hq2⟩, _, hg⟩ := vF_iff.1 h
  subst hr
  have hq : q.toNat ≠ 0 := by omega
  rw [mk_abs hq, mk_den hq]
  have e : p.natAbs.gcd q.toNat = 1 := hg
  rw [e, Nat.div_one, Nat.div_one]
  exact ⟨rfl, rfl⟩
set_option maxRecDepth 20000 in
set_option maxHeartbeats 3200000 in
theorem lowest_any (sg fine : Bool) (a1 a2 : Option Addr) (l1 c1 l2 c2 : Nat) (p q : Int) (N D B : Nat) (r : Rat) (w : World) (h : WvI w a1 a2 l1 c1 l2 c2 sg fine p q N D r) (hb1 : l1 ≤ 500000) (hb2 : l2 ≤ 500000) (hn1 : NewA B a1) (hn2 : NewA B a2) (hB : B ≤ w.heap.size) :
    Calls Tryz.prog 103 #[.agg #[.bool sg, .slice a1 l1 c1, .slice a2 l2 c2, .bool fine, .int .i64 p, .int .i64 q]] w (RetLow w B r) := by
  have hc0 : C6 (w.alloc (.cells #[.bool sg, .slice a1 l1 c1, .slice a2 l2 c2, .bool fine, .int .i64 p, .int .i64 q] 55)) w.heap.size (.bool sg) (.slice a1 l1 c1) (.slice a2 l2 c2) (.bool fine) (.int .i64 p) (.int .i64 q) := C6.new w _ _ _ _ _ _ _
  have hA : Below w.heap.size w (w.alloc (.cells #[.bool sg, .slice a1 l1 c1, .slice a2 l2 c2, .bool fine, .int .i64 p, .int .i64 q] 55)) := (Below.refl _ w).alloc (Nat.le_refl _) _
  have HX := Lib.hid (h.below hA)
  have HN := Lib.hid (And.intro hn1 hn2)
  have HP := Lib.hid (And.intro h.pos h.val)
  cases fine with
  | true =>
    obtain ⟨hv, hr, hN, hD⟩ := h.fin rfl
    have hlo := low_fine hv hr
    rw [← hN, ← hD] at hlo
    have HL := Lib.hid hlo
    clear hv hr hN hD hlo h hn1 hn2
    have HA := Lib.hid hA
    clear hA
    have hsz : (w.alloc (.cells #[.bool sg, .slice a1 l1 c1, .slice a2 l2 c2, .bool true, .int .i64 p, .int .i64 q] 55)).heap.size = w.heap.size + 1 := alloc_size _ _
    go_enter Tryz.func103, Tryz.ntmps103
    go_wp2_with fail
    obtain ⟨wA, hwA⟩ : ∃ w', (w.alloc (.cells #[.bool sg, .slice a1 l1 c1, .slice a2 l2 c2, .bool true, .int .i64 p, .int .i64 q] 55)) = w' := ⟨_, rfl⟩
    rw [hwA] at HA HX hc0 hsz ⊢
    clear hwA
    have HSZ := Lib.hid hsz
    clear hsz
    obtain ⟨x0, x1, x2, x3, x4, x5, _, _, _, _, _, _, _⟩ := hc0
    go_wp2_with fail
    have hc9 := C6.new wA 55 (.bool sg) (.slice a1 l1 c1) (.slice a2 l2 c2) (.bool true) (.int .i64 p) (.int .i64 q)
    rw [HSZ.out] at hc9
    obtain ⟨z0, z1, z2, z3, z4, z5, _, _, _, _, _, _, _⟩ := hc9
    refine bodyPost_ret (v := .agg #[.bool sg, .slice a1 l1 c1, .slice a2 l2 c2, .bool true, .int .i64 p, .int .i64 q]) (by simp [results, Tryz.results103, go_sem, *]) rfl ?_
    refine ⟨sg, a1, l1, c1, a2, l2, c2, true, p, q, rfl, ?_, HN.out, ?_⟩
    · rw [← HL.out.1, ← HL.out.2]
      exact HX.out.below ((Below.refl _ wA).alloc (Nat.le_refl _) _)
    · exact bthen HA.out ((Below.refl _ wA).alloc (Nat.le_refl _) _)
  | false =>
    clear HX
    have hA2 := hA.alloc (show w.heap.size ≤ (w.alloc (.cells #[.bool sg, .slice a1 l1 c1, .slice a2 l2 c2, .bool false, .int .i64 p, .int .i64 q] 55)).heap.size by rw [alloc_size]; omega) (.cells #[.bool false, .slice none 0 0, .slice none 0 0, .bool false, .int .i64 0, .int .i64 0] 55)
    have hc1 : C6 ((w.alloc (.cells #[.bool sg, .slice a1 l1 c1, .slice a2 l2 c2, .bool false, .int .i64 p, .int .i64 q] 55)).alloc (.cells #[.bool false, .slice none 0 0, .slice none 0 0, .bool false, .int .i64 0, .int .i64 0] 55)) (w.heap.size + 1) (.bool false) (.slice none 0 0) (.slice none 0 0) (.bool false) (.int .i64 0) (.int .i64 0) := by
      have := C6.new (w.alloc (.cells #[.bool sg, .slice a1 l1 c1, .slice a2 l2 c2, .bool false, .int .i64 p, .int .i64 q] 55)) 55 (.bool false) (.slice none 0 0) (.slice none 0 0) (.bool false) (.int .i64 0) (.int .i64 0)
      rw [alloc_size] at this; exact this
    have HX := Lib.hid (h.below hA2)
    clear h hn1 hn2
    have H0 := Lib.hid (And.intro hA2 (And.intro (hc0.all ((Below.refl _ _).alloc (Nat.le_refl _) (.cells #[.bool false, .slice none 0 0, .slice none 0 0, .bool false, .int .i64 0, .int .i64 0] 55))) hc1))
    clear hA hA2 hc0 hc1
    go_enter Tryz.func103, Tryz.ntmps103
    go_wp2_with fail
    obtain ⟨wA, hwA⟩ : ∃ w', ((w.alloc (.cells #[.bool sg, .slice a1 l1 c1, .slice a2 l2 c2, .bool false, .int .i64 p, .int .i64 q] 55)).alloc (.cells #[.bool false, .slice none 0 0, .slice none 0 0, .bool false, .int .i64 0, .int .i64 0] 55)) = w' := ⟨_, rfl⟩
    rw [hwA] at H0 HX ⊢
    clear hwA
    obtain ⟨x0, x1, x2, x3, x4, x5, _, _, _, _, _, _, _⟩ := H0.out.2.1
    go_wp2_with fail
    go_loopg [3, 4] D (fun g v3 v4 wr => ∃ ax lx cx ay ly cy X Y, v3 = .slice ax lx cx ∧ v4 = .slice ay ly cy ∧ Hid (g = Y ∧ IsBig wr ax lx X ∧ IsBig wr ay ly Y ∧ CapOk lx cx ∧ CapOk ly cy ∧ X.gcd Y = N.gcd D) ∧ Hid (lx ≤ 500000 ∧ ly ≤ 500000) ∧ Hid (Below wA.heap.size wA wr))
    case atStart => exact ⟨a1, l1, c1, a2, l2, c2, N, D, rfl, rfl, Lib.hid ⟨rfl, HX.out.n, HX.out.d, HX.out.cn, HX.out.cd, rfl⟩, Lib.hid ⟨hb1, hb2⟩, Lib.hid (Below.refl _ wA)⟩
    case round =>
      obtain ⟨ax, lx, cx, ay, ly, cy, X, Y, rfl, rfl, HI, HL, HBL⟩ := hrel
      rcases Nat.eq_zero_or_pos ly with rfl | hly
      · obtain ⟨x0, x1, x2, x3, x4, x5, _, _, _, _, _, _, x6⟩ := H0.out.2.1.all HBL.out
        obtain ⟨y0, y1, y2, y3, y4, y5, g0, g1, g2, g3, g4, g5, y6⟩ := H0.out.2.2.all HBL.out
        have hY0 : Y = 0 := by
          have h1 := digs_lt Y
          rw [HI.out.2.2.1.len] at h1
          simpa using h1
        have hXG : X = N.gcd D := by
          have h1 := HI.out.2.2.2.2.2
          rw [hY0, Nat.gcd_zero_right] at h1
          exact h1
        have hX0 : X ≠ 0 := by
          rw [hXG]
          exact fun e => HP.out.1 (Nat.eq_zero_of_gcd_eq_zero_right e)
        have hlo := low_num HP.out.2 HP.out.1
        rw [← hXG] at hlo
        have HG := Lib.hid (And.intro hX0 hlo)
        clear hY0 hXG hX0 hlo
        have HC1 := Lib.hid (bigSplit_any N X a1 ax l1 lx c1 cx wr hb1 HL.out.1 HG.out.1 (HX.out.n.below HBL.out) HI.out.2.1 HX.out.cn)
        go_wp2_with fail
        refine HC1.out.mono ?_
        rintro e wx ⟨d1, k1, m1, d2, k2, m2, rfl, hq, hr, ⟨hk1, hk2⟩, hb, hn⟩
        have HC2 := Lib.hid (bigSplit_any D X a2 ax l2 lx c2 cx wx hb2 HL.out.1 HG.out.1 ((HX.out.d.below HBL.out).below hb) (HI.out.2.1.below hb) HX.out.cd)
        have H1 := Lib.hid (And.intro hq (And.intro hk1 (And.intro hb hn.1)))
        clear hq hr hk1 hk2 hb hn
        clear x0 x1 x2 x3 x4 x5 x6 y0 y1 y2 y3 y4 y5 g0 g1 g2 g3 g4 g5 y6
        obtain ⟨x0, x1, x2, x3, x4, x5, _, _, _, _, _, _, x6⟩ := (H0.out.2.1.all HBL.out).all H1.out.2.2.1
        obtain ⟨y0, y1, y2, y3, y4, y5, g0, g1, g2, g3, g4, g5, y6⟩ := (H0.out.2.2.all HBL.out).all H1.out.2.2.1
        go_wp2_with fail
        refine HC2.out.mono ?_
        rintro e wy ⟨d3, k3, m3, d4, k4, m4, rfl, hq, hr, ⟨hk1, hk2⟩, hb, hn⟩
        have H2 := Lib.hid (And.intro hq (And.intro hk1 (And.intro hb hn.1)))
        clear hq hr hk1 hk2 hb hn
        clear x0 x1 x2 x3 x4 x5 x6 y0 y1 y2 y3 y4 y5 g0 g1 g2 g3 g4 g5 y6
        obtain ⟨x0, x1, x2, x3, x4, x5, _, _, _, _, _, _, x6⟩ := ((H0.out.2.1.all HBL.out).all H1.out.2.2.1).all H2.out.2.2.1
        obtain ⟨y0, y1, y2, y3, y4, y5, g0, g1, g2, g3, g4, g5, y6⟩ := ((H0.out.2.2.all HBL.out).all H1.out.2.2.1).all H2.out.2.2.1
        go_wp2_with fail
        have hn1 := H1.out.2.2.2.ne (b := w.heap.size + 1) (by have := (H0.out.2.2.all HBL.out).lt; exact this)
        have hn2 := H2.out.2.2.2.ne (b := w.heap.size + 1) (by have := ((H0.out.2.2.all HBL.out).all H1.out.2.2.1).lt; exact this)
        have hbl := bthen (bthen (bthen H0.out.1 HBL.out) H1.out.2.2.1) H2.out.2.2.1
        have hs1 : B ≤ wr.heap.size := Nat.le_trans hB (Nat.le_trans H0.out.1.size HBL.out.size)
        have hs2 : wr.heap.size ≤ wx.heap.size := H1.out.2.2.1.size
        have HF : Hid (WvI (put6 wy (w.heap.size + 1) (.bool sg) (.slice d1 m1 k1) (.slice d3 m3 k3) (.bool false) (.int .i64 0) (.int .i64 0)) d1 d3 m1 k1 m3 k3 sg false 0 0 r.num.natAbs r.den r ∧ (NewA B d1 ∧ NewA B d3) ∧ Below w.heap.size w (put6 wy (w.heap.size + 1) (.bool sg) (.slice d1 m1 k1) (.slice d3 m3 k3) (.bool false) (.int .i64 0) (.int .i64 0))) := Lib.hid (by
          refine ⟨⟨?_, ?_, H1.out.2.1, H2.out.2.1, Nat.ne_of_gt r.den_pos, ?_, fun e => by simp at e⟩, ⟨H1.out.2.2.2.le hs1, H2.out.2.2.2.le (by omega)⟩, put6_below hbl (by omega) _ _ _ _ _ _⟩
          · have := H1.out.1.below H2.out.2.2.1
            rw [HG.out.2.1] at this
            exact isBig_put this hn1 _ _ _ _ _ _
          · have := H2.out.1
            rw [HG.out.2.2] at this
            exact isBig_put this hn2 _ _ _ _ _ _
          · exact low_val HP.out.2 HP.out.1)
        clear hn1 hn2 hbl hs1 hs2
        refine bodyPost_ret (v := .agg #[.bool sg, .slice d1 m1 k1, .slice d3 m3 k3, .bool false, .int .i64 0, .int .i64 0]) (by simp [results, Tryz.results103, go_sem, *]) rfl ?_
        exact ⟨sg, d1, m1, k1, d3, m3, k3, false, 0, 0, rfl, HF.out⟩
      · have hly0 : (0:Int) < (ly : Int) := by omega
        have hY : Y ≠ 0 := by
          intro e
          have := HI.out.2.2.1.len
          rw [e, digs_zero] at this
          simp at this
          omega
        have HC := Lib.hid (fun h => bigSplit_any X Y ax ay lx ly cx cy wr HL.out.1 HL.out.2 h HI.out.2.1 HI.out.2.2.1 HI.out.2.2.2.1)
        have HY := Lib.hid hY
        clear hY
        go_wp2_with fail
        refine (HC.out HY.out).mono ?_
        rintro e wx ⟨d1, k1, m1, d2, k2, m2, rfl, hq, hr, ⟨hk1, hk2⟩, hb, hn⟩
        have hm2 : m2 ≤ ly := by
          refine hr.le HI.out.2.2.1.len (Nat.le_of_lt (Nat.mod_lt _ (by have := HY.out; omega)))
        have HJ := Lib.hid (show IsBig wx ay ly Y ∧ IsBig wx d2 m2 (X % Y) ∧ CapOk m2 k2 ∧ Y.gcd (X % Y) = N.gcd D from ⟨HI.out.2.2.1.below hb, hr, hk2, by rw [← HI.out.2.2.2.2.2]; exact (Nat.gcd_comm _ _).trans ((Nat.gcd_rec Y X).symm.trans (Nat.gcd_comm _ _))⟩)
        have HB2 := Lib.hid (bthen HBL.out hb)
        clear hq hr hk1 hk2 hb hn
        have hm3 := Lib.hid hm2
        clear hm2
        go_wp2_with fail
        go_roundg (X % Y)
        case measure =>
          have := HI.out.1
          rw [this]
          exact Nat.mod_lt _ (by have := HY.out; omega)
        case rel => exact ⟨ay, ly, cy, d2, m2, k2, Y, X % Y, rfl, rfl, Lib.hid ⟨rfl, HJ.out.1, HJ.out.2.1, HI.out.2.2.2.2.1, HJ.out.2.2.1, HJ.out.2.2.2⟩, Lib.hid ⟨HL.out.2, Nat.le_trans hm3.out HL.out.2⟩, HB2⟩
end B30
end Go.Proofs.YtaneocedklnajaaGreat
/- The reference's fractions of any size: what is given back. No condition but bounds. -/
namespace Go.Proofs.YtaneocedklnajaaGreat
open Go.RowKit
set_option linter.unusedVariables false
namespace B30

theorem num_sgn {sg : Bool} {r : Rat} (h : mkRat (sgn sg r.num.natAbs) r.den = r) : sgn sg r.num.natAbs = r.num := by
  have hd : r.den ≠ 0 := Nat.ne_of_gt r.den_pos
  have e : mkRat (sgn sg r.num.natAbs) r.den = mkRat r.num r.den := by rw [h, Rat.mkRat_self]
  rw [Rat.mkRat_eq_iff hd hd] at e
  exact Int.eq_of_mul_eq_mul_right (by omega) e
theorem smV_cases (n : Nat) : ∃ i o, smV n = .tuple #[.int .i64 i, .bool o] ∧ (o = true → i = (n : Int) ∧ n ≤ 1000000000000000000) ∧ (o = false → ¬ n ≤ 1000000000000000000) := by
  unfold smV
  by_cases h : n ≤ 1000000000000000000
  · exact ⟨n, true, by rw [if_pos h], fun _ => ⟨rfl, h⟩, fun e => by simp at e⟩
  · exact ⟨0, false, by rw [if_neg h], fun e => by simp at e, fun _ => h⟩
set_option maxRecDepth 20000 in
set_option maxHeartbeats 3200000 in
theorem give_any (sg fine : Bool) (a1 a2 : Option Addr) (l1 c1 l2 c2 : Nat) (p q : Int) (N D : Nat) (r : Rat) (w : World) (h : WvI w a1 a2 l1 c1 l2 c2 sg fine p q N D r) (hb1 : l1 ≤ 500000) (hb2 : l2 ≤ 500000) (hn1 : NewA 0 a1) (hn2 : NewA 0 a2) :
    Calls Tryz.prog 70 #[.agg #[.bool sg, .slice a1 l1 c1, .slice a2 l2 c2, .bool fine, .int .i64 p, .int .i64 q]] w fun e w' => e = .returned (fracV r) ∧ Below w.heap.size w w' := by
  have hc0 : C6 (w.alloc (.cells #[.bool sg, .slice a1 l1 c1, .slice a2 l2 c2, .bool fine, .int .i64 p, .int .i64 q] 55)) w.heap.size (.bool sg) (.slice a1 l1 c1) (.slice a2 l2 c2) (.bool fine) (.int .i64 p) (.int .i64 q) := C6.new w _ _ _ _ _ _ _
  have hA : Below w.heap.size w (w.alloc (.cells #[.bool sg, .slice a1 l1 c1, .slice a2 l2 c2, .bool fine, .int .i64 p, .int .i64 q] 55)) := (Below.refl _ w).alloc (Nat.le_refl _) _
  cases fine with
  | true =>
    obtain ⟨hv, hr, _, _⟩ := h.fin rfl
    obtain ⟨e1, e2, e3⟩ := vF_parts hv
    have HV := Lib.hid (show fracV r = .tuple #[.agg #[.int .i64 p, .int .i64 q], .bool true] by rw [← hr, fracV_fit e3, e1, e2])
    have hsz : (w.alloc (.cells #[.bool sg, .slice a1 l1 c1, .slice a2 l2 c2, .bool true, .int .i64 p, .int .i64 q] 55)).heap.size = w.heap.size + 1 := alloc_size _ _
    obtain ⟨x0, x1, x2, x3, x4, x5, _, _, _, _, _, _, _⟩ := hc0
    have HA := Lib.hid hA
    clear hv hr h hA hn1 hn2 e1 e2 e3
    have HSZ := Lib.hid hsz
    clear hsz
    go_enter Tryz.func70, Tryz.ntmps70
    go_wp2_with fail
    clear x0 x1 x2 x3 x4 x5
    obtain ⟨wA, hwA⟩ : ∃ w', (w.alloc (.cells #[.bool sg, .slice a1 l1 c1, .slice a2 l2 c2, .bool true, .int .i64 p, .int .i64 q] 55)) = w' := ⟨_, rfl⟩
    rw [hwA] at HA HSZ ⊢
    clear hwA
    have hc9 := C2.new wA 40 (.int .i64 p) (.int .i64 q)
    rw [HSZ.out] at hc9
    obtain ⟨z0, z1, _, _, _⟩ := hc9
    refine bodyPost_ret (v := .tuple #[.agg #[.int .i64 p, .int .i64 q], .bool true]) (by simp [results, Tryz.results70, go_sem, *]) rfl ?_
    exact ⟨by rw [HV.out], bthen HA.out ((Below.refl _ wA).alloc (Nat.le_refl _) _)⟩
  | false =>
    have hA2 := hA.alloc (show w.heap.size ≤ (w.alloc (.cells #[.bool sg, .slice a1 l1 c1, .slice a2 l2 c2, .bool false, .int .i64 p, .int .i64 q] 55)).heap.size by rw [alloc_size]; omega) (.cells #[.int .i64 0, .int .i64 0] 40)
    have hc1 : C2 ((w.alloc (.cells #[.bool sg, .slice a1 l1 c1, .slice a2 l2 c2, .bool false, .int .i64 p, .int .i64 q] 55)).alloc (.cells #[.int .i64 0, .int .i64 0] 40)) (w.heap.size + 1) (.int .i64 0) (.int .i64 0) := by
      have := C2.new (w.alloc (.cells #[.bool sg, .slice a1 l1 c1, .slice a2 l2 c2, .bool false, .int .i64 p, .int .i64 q] 55)) 40 (.int .i64 0) (.int .i64 0)
      rw [alloc_size] at this; exact this
    have HX := Lib.hid (h.below hA2)
    have hc2 := hc0.all ((Below.refl _ _).alloc (Nat.le_refl _) (.cells #[.int .i64 0, .int .i64 0] 40))
    have HL := Lib.hid (fun w h hB => lowest_any sg false a1 a2 l1 c1 l2 c2 p q N D 0 r w h hb1 hb2 hn1 hn2 hB)
    obtain ⟨x0, x1, x2, x3, x4, x5, _, _, _, _, _, _, _⟩ := hc0
    have HPL := Lib.hid (low_num h.val h.pos)
    have HLE := Lib.hid (show r.num.natAbs ≤ N ∧ r.den ≤ D by
      rw [← HPL.out.1, ← HPL.out.2]
      exact ⟨Nat.div_le_self _ _, Nat.div_le_self _ _⟩)
    have HLN := Lib.hid (And.intro h.n.len h.d.len)
    clear h hn1 hn2
    have H0 := Lib.hid (And.intro hA2 (And.intro hc2 hc1))
    clear hA hA2 hc1 hc2
    go_enter Tryz.func70, Tryz.ntmps70
    go_wp2_with fail
    clear x0 x1 x2 x3 x4 x5
    obtain ⟨wA, hwA⟩ : ∃ w', ((w.alloc (.cells #[.bool sg, .slice a1 l1 c1, .slice a2 l2 c2, .bool false, .int .i64 p, .int .i64 q] 55)).alloc (.cells #[.int .i64 0, .int .i64 0] 40)) = w' := ⟨_, rfl⟩
    rw [hwA] at H0 HX ⊢
    clear hwA
    refine (HL.out _ HX.out (Nat.zero_le _)).mono ?_
    rintro e w1 ⟨s1, d1, m1, k1, d2, m2, k2, f1, p1, q1, rfl, hwv, hnn, hb⟩
    have hm1 : m1 ≤ l1 := by rw [← hwv.n.len, ← HLN.out.1]; exact digs_len_mono HLE.out.1
    have hm2 : m2 ≤ l2 := by rw [← hwv.d.len, ← HLN.out.2]; exact digs_len_mono HLE.out.2
    have hv1 := hwv.val
    have hns := num_sgn hv1
    have HS1 := Lib.hid (fun w h => l05Small_any r.num.natAbs d1 m1 k1 w (by omega) h)
    have HS2 := Lib.hid (fun w h => l05Small_any r.den d2 m2 k2 w (by omega) h)
    have hb1' : Below w1.heap.size w1 (w1.alloc (.cells #[.bool s1, .slice d1 m1 k1, .slice d2 m2 k2, .bool f1, .int .i64 p1, .int .i64 q1] 55)) := (Below.refl _ w1).alloc (Nat.le_refl _) _
    have HB := Lib.hid (And.intro (hwv.n.below hb1') (hwv.d.below hb1'))
    have HC := Lib.hid (C6.new w1 55 (.bool s1) (.slice d1 m1 k1) (.slice d2 m2 k2) (.bool f1) (.int .i64 p1) (.int .i64 q1))
    have HF := Lib.hid ((H0.out.2.2.all hb).all hb1')
    have HBL := Lib.hid (bthen (bthen H0.out.1 hb) hb1')
    have HNS := Lib.hid hns
    clear hwv hnn hb hm1 hm2 hv1 hns hb1'
    go_wp2_with fail
    obtain ⟨i1, o1, hi1, ho1⟩ := smV_cases r.num.natAbs
    obtain ⟨i2, o2, hi2, ho2⟩ := smV_cases r.den
    have HO := Lib.hid (And.intro ho1 ho2)
    rw [hi1] at HS1
    rw [hi2] at HS2
    clear hi1 hi2 ho1 ho2
    obtain ⟨B1, hB1⟩ : ∃ b, w1.heap.size = b := ⟨_, rfl⟩
    obtain ⟨w2, hw2⟩ : ∃ w', (w1.alloc (.cells #[.bool s1, .slice d1 m1 k1, .slice d2 m2 k2, .bool f1, .int .i64 p1, .int .i64 q1] 55)) = w' := ⟨_, rfl⟩
    rw [hw2] at HB HC HF HBL ⊢
    rw [hB1] at HC ⊢
    clear hw2 hB1
    refine (HS1.out _ HB.out.1).mono ?_
    rintro e w3 ⟨rfl, hb3⟩
    have HB3 := Lib.hid (HB.out.2.below hb3)
    have HC3 := Lib.hid (HC.out.all hb3)
    have HF3 := Lib.hid (And.intro (HF.out.all hb3) (bthen HBL.out hb3))
    clear hb3 HC HF HBL HB
    obtain ⟨y0, y1, y2, y3, y4, y5, _, _, _, _, _, _, y6⟩ := HC3.out
    go_wp2_with fail
    refine (HS2.out _ HB3.out).mono ?_
    rintro e w4 ⟨rfl, hb4⟩
    have HC4 := Lib.hid (HC3.out.all hb4)
    have HF4 := Lib.hid (And.intro (HF3.out.1.all hb4) (bthen HF3.out.2 hb4))
    clear hb4 HF3 HB3 HC3 y0 y1 y2 y3 y4 y5 y6
    obtain ⟨y0, y1, y2, y3, y4, y5, _, _, _, _, _, _, y6⟩ := HC4.out
    obtain ⟨z0, z1, z2, z3, z4⟩ := HF4.out.1
    cases o1 with
    | false =>
      have HV := Lib.hid (show fracV r = .tuple #[.agg #[.int .i64 0, .int .i64 0], .bool false] from fracV_no (by
        unfold fitR
        rw [decide_eq_false (HO.out.1.2 rfl)]; rfl))
      go_wp2_with fail
      refine bodyPost_ret (v := .tuple #[.agg #[.int .i64 0, .int .i64 0], .bool false]) (by simp [results, Tryz.results70, go_sem, *]) rfl ?_
      exact ⟨by rw [HV.out], by first | exact HF4.out.2 | exact (HF4.out.2.setCell (p := ⟨w.heap.size + 1, 0, none⟩) (by simp) _).setCell (p := ⟨w.heap.size + 1, 1, none⟩) (by simp) _⟩
    | true =>
      cases o2 with
      | false =>
        have HV := Lib.hid (show fracV r = .tuple #[.agg #[.int .i64 0, .int .i64 0], .bool false] from fracV_no (by
          unfold fitR
          rw [decide_eq_false (HO.out.2.2 rfl), Bool.and_false]))
        go_wp2_with fail
        refine bodyPost_ret (v := .tuple #[.agg #[.int .i64 0, .int .i64 0], .bool false]) (by simp [results, Tryz.results70, go_sem, *]) rfl ?_
        exact ⟨by rw [HV.out], by first | exact HF4.out.2 | exact (HF4.out.2.setCell (p := ⟨w.heap.size + 1, 0, none⟩) (by simp) _).setCell (p := ⟨w.heap.size + 1, 1, none⟩) (by simp) _⟩
      | true =>
        obtain ⟨rfl, hl1⟩ := HO.out.1.1 rfl
        obtain ⟨rfl, hl2⟩ := HO.out.2.1 rfl
        have HV := Lib.hid (show fracV r = .tuple #[.agg #[.int .i64 r.num, .int .i64 (r.den : Nat)], .bool true] from fracV_yes (by
          unfold fitR
          rw [decide_eq_true hl1, decide_eq_true hl2]; rfl))
        have hns := HNS.out
        have HL := Lib.hid (And.intro hl1 hl2)
        clear hl2
        cases s1 with
        | false =>
          have HNE := Lib.hid (show ((r.num.natAbs : Nat) : Int) = r.num from hns)
          clear hns hl1
          go_wp2_with fail
          refine bodyPost_ret (v := .tuple #[.agg #[.int .i64 (r.num.natAbs : Nat), .int .i64 (r.den : Nat)], .bool true]) (by simp [results, Tryz.results70, go_sem, *]) rfl ?_
          exact ⟨by rw [HV.out, HNE.out], by exact (HF4.out.2.setCell (p := ⟨w.heap.size + 1, 0, none⟩) (by simp) _).setCell (p := ⟨w.heap.size + 1, 1, none⟩) (by simp) _⟩
        | true =>
          have HNE := Lib.hid (show -((r.num.natAbs : Nat) : Int) = r.num from hns)
          have hwr : IntKind.i64.wrap (-((r.num.natAbs : Nat) : Int)) = -((r.num.natAbs : Nat) : Int) := IntWalk.i64_in _ (by omega)
          clear hns hl1
          go_wp2_with fail
          refine bodyPost_ret (v := .tuple #[.agg #[.int .i64 (-((r.num.natAbs : Nat) : Int)), .int .i64 (r.den : Nat)], .bool true]) (by simp [results, Tryz.results70, go_sem, *]) rfl ?_
          exact ⟨by rw [HV.out, HNE.out], by exact (HF4.out.2.setCell (p := ⟨w.heap.size + 1, 0, none⟩) (by simp) _).setCell (p := ⟨w.heap.size + 1, 1, none⟩) (by simp) _⟩
end B30
end Go.Proofs.YtaneocedklnajaaGreat
/- The reference's sum of a list of fractions of any size. No condition but bounds. -/
namespace Go.Proofs.YtaneocedklnajaaGreat
open Go.RowKit
set_option linter.unusedVariables false
namespace B30

/-- A fraction of any size that lies at an address. -/
structure WvAt (w : World) (g o : Nat) (sg : Bool) (a1 a2 : Option Addr) (l1 c1 l2 c2 : Nat) (fine : Bool) (p q : Int) (N D : Nat) (r : Rat) (bd : Nat) : Prop where
  e0 : w.cell? ⟨g, o, none⟩ = some (.bool sg)
  e1 : w.cell? ⟨g, o + 1, none⟩ = some (.slice a1 l1 c1)
  e2 : w.cell? ⟨g, o + 2, none⟩ = some (.slice a2 l2 c2)
  e3 : w.cell? ⟨g, o + 3, none⟩ = some (.bool fine)
  e4 : w.cell? ⟨g, o + 4, none⟩ = some (.int .i64 p)
  e5 : w.cell? ⟨g, o + 5, none⟩ = some (.int .i64 q)
  v : WvI w a1 a2 l1 c1 l2 c2 sg fine p q N D r
  n : N < 2 ^ bd
  d : D < 2 ^ bd
theorem C6.set0 {w : World} {b : Nat} {v0 v1 v2 v3 v4 v5 : Value} (h : C6 w b v0 v1 v2 v3 v4 v5) (u : Value) : C6 (w.setCell ⟨b, 0, none⟩ u) b u v1 v2 v3 v4 v5 :=
  ⟨World.cell?_setCell_same _ _ _ h.c0, by rw [World.cell?_setCell_other _ _ _ _ (by simp)]; exact h.c1, by rw [World.cell?_setCell_other _ _ _ _ (by simp)]; exact h.c2, by rw [World.cell?_setCell_other _ _ _ _ (by simp)]; exact h.c3, by rw [World.cell?_setCell_other _ _ _ _ (by simp)]; exact h.c4, by rw [World.cell?_setCell_other _ _ _ _ (by simp)]; exact h.c5, by rw [World.frozen?_setCell]; exact h.f0, by rw [World.frozen?_setCell]; exact h.f1, by rw [World.frozen?_setCell]; exact h.f2, by rw [World.frozen?_setCell]; exact h.f3, by rw [World.frozen?_setCell]; exact h.f4, by rw [World.frozen?_setCell]; exact h.f5, by rw [World.size_setCell]; exact h.lt⟩
theorem C6.set1 {w : World} {b : Nat} {v0 v1 v2 v3 v4 v5 : Value} (h : C6 w b v0 v1 v2 v3 v4 v5) (u : Value) : C6 (w.setCell ⟨b, 1, none⟩ u) b v0 u v2 v3 v4 v5 :=
  ⟨by rw [World.cell?_setCell_other _ _ _ _ (by simp)]; exact h.c0, World.cell?_setCell_same _ _ _ h.c1, by rw [World.cell?_setCell_other _ _ _ _ (by simp)]; exact h.c2, by rw [World.cell?_setCell_other _ _ _ _ (by simp)]; exact h.c3, by rw [World.cell?_setCell_other _ _ _ _ (by simp)]; exact h.c4, by rw [World.cell?_setCell_other _ _ _ _ (by simp)]; exact h.c5, by rw [World.frozen?_setCell]; exact h.f0, by rw [World.frozen?_setCell]; exact h.f1, by rw [World.frozen?_setCell]; exact h.f2, by rw [World.frozen?_setCell]; exact h.f3, by rw [World.frozen?_setCell]; exact h.f4, by rw [World.frozen?_setCell]; exact h.f5, by rw [World.size_setCell]; exact h.lt⟩
theorem C6.set2 {w : World} {b : Nat} {v0 v1 v2 v3 v4 v5 : Value} (h : C6 w b v0 v1 v2 v3 v4 v5) (u : Value) : C6 (w.setCell ⟨b, 2, none⟩ u) b v0 v1 u v3 v4 v5 :=
  ⟨by rw [World.cell?_setCell_other _ _ _ _ (by simp)]; exact h.c0, by rw [World.cell?_setCell_other _ _ _ _ (by simp)]; exact h.c1, World.cell?_setCell_same _ _ _ h.c2, by rw [World.cell?_setCell_other _ _ _ _ (by simp)]; exact h.c3, by rw [World.cell?_setCell_other _ _ _ _ (by simp)]; exact h.c4, by rw [World.cell?_setCell_other _ _ _ _ (by simp)]; exact h.c5, by rw [World.frozen?_setCell]; exact h.f0, by rw [World.frozen?_setCell]; exact h.f1, by rw [World.frozen?_setCell]; exact h.f2, by rw [World.frozen?_setCell]; exact h.f3, by rw [World.frozen?_setCell]; exact h.f4, by rw [World.frozen?_setCell]; exact h.f5, by rw [World.size_setCell]; exact h.lt⟩
theorem C6.set3 {w : World} {b : Nat} {v0 v1 v2 v3 v4 v5 : Value} (h : C6 w b v0 v1 v2 v3 v4 v5) (u : Value) : C6 (w.setCell ⟨b, 3, none⟩ u) b v0 v1 v2 u v4 v5 :=
  ⟨by rw [World.cell?_setCell_other _ _ _ _ (by simp)]; exact h.c0, by rw [World.cell?_setCell_other _ _ _ _ (by simp)]; exact h.c1, by rw [World.cell?_setCell_other _ _ _ _ (by simp)]; exact h.c2, World.cell?_setCell_same _ _ _ h.c3, by rw [World.cell?_setCell_other _ _ _ _ (by simp)]; exact h.c4, by rw [World.cell?_setCell_other _ _ _ _ (by simp)]; exact h.c5, by rw [World.frozen?_setCell]; exact h.f0, by rw [World.frozen?_setCell]; exact h.f1, by rw [World.frozen?_setCell]; exact h.f2, by rw [World.frozen?_setCell]; exact h.f3, by rw [World.frozen?_setCell]; exact h.f4, by rw [World.frozen?_setCell]; exact h.f5, by rw [World.size_setCell]; exact h.lt⟩
theorem C6.set4 {w : World} {b : Nat} {v0 v1 v2 v3 v4 v5 : Value} (h : C6 w b v0 v1 v2 v3 v4 v5) (u : Value) : C6 (w.setCell ⟨b, 4, none⟩ u) b v0 v1 v2 v3 u v5 :=
  ⟨by rw [World.cell?_setCell_other _ _ _ _ (by simp)]; exact h.c0, by rw [World.cell?_setCell_other _ _ _ _ (by simp)]; exact h.c1, by rw [World.cell?_setCell_other _ _ _ _ (by simp)]; exact h.c2, by rw [World.cell?_setCell_other _ _ _ _ (by simp)]; exact h.c3, World.cell?_setCell_same _ _ _ h.c4, by rw [World.cell?_setCell_other _ _ _ _ (by simp)]; exact h.c5, by rw [World.frozen?_setCell]; exact h.f0, by rw [World.frozen?_setCell]; exact h.f1, by rw [World.frozen?_setCell]; exact h.f2, by rw [World.frozen?_setCell]; exact h.f3, by rw [World.frozen?_setCell]; exact h.f4, by rw [World.frozen?_setCell]; exact h.f5, by rw [World.size_setCell]; exact h.lt⟩
theorem C6.set5 {w : World} {b : Nat} {v0 v1 v2 v3 v4 v5 : Value} (h : C6 w b v0 v1 v2 v3 v4 v5) (u : Value) : C6 (w.setCell ⟨b, 5, none⟩ u) b v0 v1 v2 v3 v4 u :=
  ⟨by rw [World.cell?_setCell_other _ _ _ _ (by simp)]; exact h.c0, by rw [World.cell?_setCell_other _ _ _ _ (by simp)]; exact h.c1, by rw [World.cell?_setCell_other _ _ _ _ (by simp)]; exact h.c2, by rw [World.cell?_setCell_other _ _ _ _ (by simp)]; exact h.c3, by rw [World.cell?_setCell_other _ _ _ _ (by simp)]; exact h.c4, World.cell?_setCell_same _ _ _ h.c5, by rw [World.frozen?_setCell]; exact h.f0, by rw [World.frozen?_setCell]; exact h.f1, by rw [World.frozen?_setCell]; exact h.f2, by rw [World.frozen?_setCell]; exact h.f3, by rw [World.frozen?_setCell]; exact h.f4, by rw [World.frozen?_setCell]; exact h.f5, by rw [World.size_setCell]; exact h.lt⟩
theorem C6.other {w : World} {b g o : Nat} {v0 v1 v2 v3 v4 v5 : Value} (h : C6 w b v0 v1 v2 v3 v4 v5) (hne : g ≠ b) (u : Value) : C6 (w.setCell ⟨g, o, none⟩ u) b v0 v1 v2 v3 v4 v5 := by
  have e : ∀ p, (⟨g, o, none⟩ : Addr) ≠ ⟨b, p, none⟩ := fun p e => hne (by injection e)
  exact ⟨by rw [World.cell?_setCell_other _ _ _ _ (e 0)]; exact h.c0, by rw [World.cell?_setCell_other _ _ _ _ (e 1)]; exact h.c1, by rw [World.cell?_setCell_other _ _ _ _ (e 2)]; exact h.c2, by rw [World.cell?_setCell_other _ _ _ _ (e 3)]; exact h.c3, by rw [World.cell?_setCell_other _ _ _ _ (e 4)]; exact h.c4, by rw [World.cell?_setCell_other _ _ _ _ (e 5)]; exact h.c5, by rw [World.frozen?_setCell]; exact h.f0, by rw [World.frozen?_setCell]; exact h.f1, by rw [World.frozen?_setCell]; exact h.f2, by rw [World.frozen?_setCell]; exact h.f3, by rw [World.frozen?_setCell]; exact h.f4, by rw [World.frozen?_setCell]; exact h.f5, by rw [World.size_setCell]; exact h.lt⟩
theorem C6.put {w : World} {b : Nat} {v0 v1 v2 v3 v4 v5 : Value} (h : C6 w b v0 v1 v2 v3 v4 v5) (u0 u1 u2 u3 u4 u5 : Value) : C6 (put6 w b u0 u1 u2 u3 u4 u5) b u0 u1 u2 u3 u4 u5 := ((((((h.set0 u0).set1 u1).set2 u2).set3 u3).set4 u4).set5 u5)
theorem C6.oput {w : World} {b g : Nat} {v0 v1 v2 v3 v4 v5 : Value} (h : C6 w b v0 v1 v2 v3 v4 v5) (hne : g ≠ b) (u0 u1 u2 u3 u4 u5 : Value) : C6 (put6 w g u0 u1 u2 u3 u4 u5) b v0 v1 v2 v3 v4 v5 := ((((((h.other hne u0).other hne u1).other hne u2).other hne u3).other hne u4).other hne u5)
theorem WvI.put {w : World} {a1 a2 : Option Addr} {l1 c1 l2 c2 : Nat} {sg fine : Bool} {p q : Int} {N D : Nat} {r : Rat} (h : WvI w a1 a2 l1 c1 l2 c2 sg fine p q N D r) {b : Nat} (h1 : ∀ g off, a1 = some ⟨g, off, none⟩ → g ≠ b) (h2 : ∀ g off, a2 = some ⟨g, off, none⟩ → g ≠ b) (v0 v1 v2 v3 v4 v5 : Value) : WvI (put6 w b v0 v1 v2 v3 v4 v5) a1 a2 l1 c1 l2 c2 sg fine p q N D r :=
  ⟨isBig_put h.n h1 _ _ _ _ _ _, isBig_put h.d h2 _ _ _ _ _ _, h.cn, h.cd, h.pos, h.val, h.fin⟩
/-- A list of them. -/
def WvL (w : World) (a : Option Addr) (n : Nat) (R : Nat → Rat) (bd : Nat) : Prop := ∀ j, j < n → ∃ g off sg a1 a2 l1 c1 l2 c2 fine p q N D, a = some ⟨g, off, none⟩ ∧ WvAt w g (off + j * 6) sg a1 a2 l1 c1 l2 c2 fine p q N D (R j) bd
theorem WvAt.below {w w' : World} {g o : Nat} {sg : Bool} {a1 a2 : Option Addr} {l1 c1 l2 c2 : Nat} {fine : Bool} {p q : Int} {N D : Nat} {r : Rat} {bd : Nat} (h : WvAt w g o sg a1 a2 l1 c1 l2 c2 fine p q N D r bd) (hb : Below w.heap.size w w') : WvAt w' g o sg a1 a2 l1 c1 l2 c2 fine p q N D r bd := by
  have hg : g < w.heap.size := by
    have := h.e0
    by_cases h2 : g < w.heap.size
    · exact h2
    · simp [World.cell?, Array.getElem?_eq_none (Nat.le_of_not_lt h2)] at this
  exact ⟨(hb.cell (p := ⟨g, _, none⟩) hg).trans h.e0, (hb.cell (p := ⟨g, _, none⟩) hg).trans h.e1, (hb.cell (p := ⟨g, _, none⟩) hg).trans h.e2, (hb.cell (p := ⟨g, _, none⟩) hg).trans h.e3, (hb.cell (p := ⟨g, _, none⟩) hg).trans h.e4, (hb.cell (p := ⟨g, _, none⟩) hg).trans h.e5, h.v.below hb, h.n, h.d⟩
theorem WvL.below {w w' : World} {a : Option Addr} {n : Nat} {R : Nat → Rat} {bd : Nat} (h : WvL w a n R bd) (hb : Below w.heap.size w w') : WvL w' a n R bd := by
  intro j hj
  obtain ⟨g, off, sg, a1, a2, l1, c1, l2, c2, fine, p, q, N, D, e, hv⟩ := h j hj
  exact ⟨g, off, sg, a1, a2, l1, c1, l2, c2, fine, p, q, N, D, e, hv.below hb⟩
/-- The sum of the first k. -/
def sumW (R : Nat → Rat) : Nat → Rat
  | 0 => 0
  | k + 1 => sumW R k + R k
/-- The loop's state. -/
structure SwI (w : World) (R : Nat → Rat) (bd b4 k : Nat) (sg : Bool) (a1 a2 : Option Addr) (l1 c1 l2 c2 : Nat) (fine : Bool) (p q : Int) (N D : Nat) (wr : World) : Prop where
  res : C6 wr w.heap.size (.bool false) (.slice none 0 0) (.slice none 0 0) (.bool false) (.int .i64 0) (.int .i64 0)
  box : C6 wr b4 (.bool sg) (.slice a1 l1 c1) (.slice a2 l2 c2) (.bool fine) (.int .i64 p) (.int .i64 q)
  v : WvI wr a1 a2 l1 c1 l2 c2 sg fine p q N D (sumW R k)
  n : N < 2 ^ (60 + k * (bd + 61))
  d : D < 2 ^ (60 + k * (bd + 61))
  na : NewA (w.heap.size + 1) a1
  na2 : NewA (w.heap.size + 1) a2
  bel : Below w.heap.size w wr
  lt : w.heap.size < b4
theorem SwI.all {w : World} {R : Nat → Rat} {bd b4 k : Nat} {sg : Bool} {a1 a2 : Option Addr} {l1 c1 l2 c2 : Nat} {fine : Bool} {p q : Int} {N D : Nat} {wr wx : World} (h : SwI w R bd b4 k sg a1 a2 l1 c1 l2 c2 fine p q N D wr) (hb : Below wr.heap.size wr wx) : SwI w R bd b4 k sg a1 a2 l1 c1 l2 c2 fine p q N D wx :=
  ⟨h.res.all hb, h.box.all hb, h.v.below hb, h.n, h.d, h.na, h.na2, bthen h.bel hb, h.lt⟩
set_option maxRecDepth 20000 in
set_option maxHeartbeats 3200000 in
theorem l05Sum_any (a : Option Addr) (n c : Nat) (R : Nat → Rat) (bd : Nat) (w : World) (hn : n ≤ 64) (hbd : bd ≤ 40000) (h : WvL w a n R bd) :
    Calls Tryz.prog 71 #[.slice a n c] w (RetWide w w.heap.size (sumW R n) (60 + n * (bd + 61))) := by
  have hA : Below w.heap.size w (w.alloc (.cells #[.bool false, .slice none 0 0, .slice none 0 0, .bool false, .int .i64 0, .int .i64 0] 55)) := (Below.refl _ w).alloc (Nat.le_refl _) _
  have H0 := Lib.hid (And.intro hA (C6.new w 55 (.bool false) (.slice none 0 0) (.slice none 0 0) (.bool false) (.int .i64 0) (.int .i64 0)))
  clear hA
  have HX := Lib.hid h
  have hZ : vF 0 1 = true := by decide
  have HZ := Lib.hid (fun (w : World) => l05Zero_any w)
  have HW := Lib.hid (fun w => wideOf_any 0 1 w hZ)
  clear h hZ
  go_enter Tryz.func71, Tryz.ntmps71
  go_wp2_with fail
  refine (HZ.out _).mono ?_
  rintro e w1 ⟨rfl, hb⟩
  have H1 := Lib.hid (And.intro (bthen H0.out.1 hb) (H0.out.2.all hb))
  clear hb H0
  go_wp2_with fail
  refine (HW.out _).mono ?_
  rintro e w2 ⟨sg, a1, l1, c1, a2, l2, c2, fine, p, q, N, D, rfl, hv, ⟨hN, hD⟩, ⟨hn1, hn2⟩, hb⟩
  have hsz1 : w.heap.size + 1 ≤ w1.heap.size := H1.out.2.lt
  have hb2 : Below w2.heap.size w2 (w2.alloc (.cells #[.bool sg, .slice a1 l1 c1, .slice a2 l2 c2, .bool fine, .int .i64 p, .int .i64 q] 55)) := (Below.refl _ w2).alloc (Nat.le_refl _) _
  have hlt2 : w.heap.size < w2.heap.size := Nat.lt_of_lt_of_le hsz1 hb.size
  have H2 := Lib.hid (show SwI w R bd w2.heap.size 0 sg a1 a2 l1 c1 l2 c2 fine p q N D (w2.alloc (.cells #[.bool sg, .slice a1 l1 c1, .slice a2 l2 c2, .bool fine, .int .i64 p, .int .i64 q] 55)) from
    ⟨(H1.out.2.all hb).all hb2, C6.new w2 _ _ _ _ _ _ _, hv.below hb2, by simpa using hN, by simpa using hD, hn1.le hsz1, hn2.le hsz1, bthen (bthen H1.out.1 hb) hb2, hlt2⟩)
  clear hv hN hD hn1 hn2 hb H1 hsz1 hb2 hlt2
  go_wp2_with fail
  obtain ⟨w3, hw3⟩ : ∃ w', (w2.alloc (.cells #[.bool sg, .slice a1 l1 c1, .slice a2 l2 c2, .bool fine, .int .i64 p, .int .i64 q] 55)) = w' := ⟨_, rfl⟩
  obtain ⟨b4, hb4⟩ : ∃ b, w2.heap.size = b := ⟨_, rfl⟩
  rw [hw3, hb4] at H2
  rw [hw3, hb4]
  clear hw3 hb4
  go_loopw [4] (fun i wr => ∃ (k : Nat) (sg : Bool) (a1 a2 : Option Addr) (l1 c1 l2 c2 : Nat) (fine : Bool) (p q : Int) (N D : Nat), k ≤ n ∧ i = .int .i64 (k : Nat) ∧ Hid (SwI w R bd b4 k sg a1 a2 l1 c1 l2 c2 fine p q N D wr)) (fun i _ => n - (intOf i).toNat)
  case atStart => exact ⟨0, sg, a1, a2, l1, c1, l2, c2, fine, p, q, N, D, Nat.zero_le _, rfl, H2⟩
  case round =>
    clear H2
    obtain ⟨k, sg, a1, a2, l1, c1, l2, c2, fine, p, q, N, D, hk, rfl, HI⟩ := hrel
    obtain ⟨x0, x1, x2, x3, x4, x5, g0, g1, g2, g3, g4, g5, x6⟩ := HI.out.box
    by_cases hlt : k < n
    · obtain ⟨g, off, s2, d1, d2, m1, k1, m2, k2, f2, p2, q2, N2, D2, rfl, hel⟩ := HX.out k hlt
      have hel2 := hel.below HI.out.bel
      obtain ⟨O, hO⟩ : ∃ O, off + k * 6 = O := ⟨_, rfl⟩
      rw [hO] at hel2
      have hki : (k : Int) < (n : Int) := by omega
      have hk0 : (0 : Int) ≤ (k : Int) := by omega
      obtain ⟨v0, v1, v2, v3, v4, v5, hv2, hn2, hd2⟩ := hel2
      clear hel
      have HG : Hid (g < wr.drew.heap.size) := Lib.hid (by
        by_cases h2 : g < wr.heap.size
        · exact h2
        · simp [World.cell?, Array.getElem?_eq_none (Nat.le_of_not_lt h2)] at v0)
      have hdr : Below wr.heap.size wr wr.drew := (Below.refl _ wr).drew
      have HI1 := Lib.hid (HI.out.all hdr)
      have HE := Lib.hid (And.intro (hv2.below hdr) (And.intro hn2 hd2))
      have hkb : k * (bd + 61) ≤ 63 * 40061 := Nat.mul_le_mul (by omega) (by omega)
      have hsc : 60 + k * (bd + 61) + bd + 61 = 60 + (k + 1) * (bd + 61) := by rw [Nat.add_mul]; omega
      have HW1 := Lib.hid (wideAdd_any sg s2 fine f2 a1 a2 d1 d2 l1 c1 l2 c2 m1 k1 m2 k2 p q p2 q2 N D N2 D2 (60 + k * (bd + 61)) bd (sumW R k) (R k) wr.drew HI1.out.v HE.out.1 HI1.out.n HI1.out.d hn2 hd2 (by omega) (by omega))
      rw [hsc] at HW1
      have HSC : Hid (60 + (k + 1) * (bd + 61) ≤ 15000000) := Lib.hid (by rw [← hsc]; omega)
      have HOO := Lib.hid hO
      clear hdr hv2 hn2 hd2 hkb hsc hO
      go_wp2_with fail
      refine wp_region_any (by kernel_rfl) (any_of_K (k := 7) (S := fun w' => w'.cell? ⟨b4, 0, none⟩ = some (.bool sg) ∧ w'.cell? ⟨b4, 1, none⟩ = some (.slice a1 l1 c1) ∧ w'.cell? ⟨b4, 2, none⟩ = some (.slice a2 l2 c2) ∧ w'.cell? ⟨b4, 3, none⟩ = some (.bool fine) ∧ w'.cell? ⟨b4, 4, none⟩ = some (.int .i64 p) ∧ w'.cell? ⟨b4, 5, none⟩ = some (.int .i64 q) ∧ w'.cell? ⟨g, O, none⟩ = some (.bool s2) ∧ w'.cell? ⟨g, O + 1, none⟩ = some (.slice d1 m1 k1) ∧ w'.cell? ⟨g, O + 2, none⟩ = some (.slice d2 m2 k2) ∧ w'.cell? ⟨g, O + 3, none⟩ = some (.bool f2) ∧ w'.cell? ⟨g, O + 4, none⟩ = some (.int .i64 p2) ∧ w'.cell? ⟨g, O + 5, none⟩ = some (.int .i64 q2)) (T := fun _ => True) _ _ _ _ ?_)
      have hS : wr.drew.cell? ⟨b4, 0, none⟩ = some (.bool sg) ∧ wr.drew.cell? ⟨b4, 1, none⟩ = some (.slice a1 l1 c1) ∧ wr.drew.cell? ⟨b4, 2, none⟩ = some (.slice a2 l2 c2) ∧ wr.drew.cell? ⟨b4, 3, none⟩ = some (.bool fine) ∧ wr.drew.cell? ⟨b4, 4, none⟩ = some (.int .i64 p) ∧ wr.drew.cell? ⟨b4, 5, none⟩ = some (.int .i64 q) ∧ wr.drew.cell? ⟨g, O, none⟩ = some (.bool s2) ∧ wr.drew.cell? ⟨g, O + 1, none⟩ = some (.slice d1 m1 k1) ∧ wr.drew.cell? ⟨g, O + 2, none⟩ = some (.slice d2 m2 k2) ∧ wr.drew.cell? ⟨g, O + 3, none⟩ = some (.bool f2) ∧ wr.drew.cell? ⟨g, O + 4, none⟩ = some (.int .i64 p2) ∧ wr.drew.cell? ⟨g, O + 5, none⟩ = some (.int .i64 q2) := ⟨x0, x1, x2, x3, x4, x5, v0, v1, v2, v3, v4, v5⟩
      refine anyT_take (i := 1) (n := 7) (v := .slice (some ⟨g, off, none⟩) n c) rfl (by decide) (by kernel_rfl) (by kernel_rfl) (by kernel_rfl) (fun _ _ _ h => h) (Or.inl ⟨by kernel_rfl, fun w' hw => by kernel_rfl⟩) hS trivial ?_
      refine anyT_take (i := 2) (n := 6) (v := .int .i64 (k : Nat)) rfl (by decide) (by kernel_rfl) (by kernel_rfl) (by kernel_rfl) (fun _ _ _ h => h) (Or.inl ⟨by kernel_rfl, fun w' hw => by kernel_rfl⟩) hS trivial ?_
      refine anyT_take (i := 3) (n := 5) (v := .pointer (some ⟨g, O, none⟩)) rfl (by decide) (by kernel_rfl) (by kernel_rfl) (by kernel_rfl) (fun _ _ _ h => h) (Or.inl ⟨by kernel_rfl, fun w' hw => by (have hO := HOO.out; go_simp)⟩) hS trivial ?_
      refine anyK_take (i := 0) (n := 4) (v := .agg #[.bool sg, .slice a1 l1 c1, .slice a2 l2 c2, .bool fine, .int .i64 p, .int .i64 q]) rfl rfl (by kernel_rfl) (by kernel_rfl) (by kernel_rfl) (by kernel_rfl) (by kernel_rfl) (fun _ _ _ h => h) (Or.inl ⟨by kernel_rfl, fun w' hw => by (obtain ⟨z0, z1, z2, z3, z4, z5, z6, z7, z8, z9, z10, z11⟩ := hw; go_simp)⟩) hS trivial ?_
      refine anyK_take (i := 4) (n := 3) (v := .agg #[.bool s2, .slice d1 m1 k1, .slice d2 m2 k2, .bool f2, .int .i64 p2, .int .i64 q2]) rfl rfl (by kernel_rfl) (by kernel_rfl) (by kernel_rfl) (by kernel_rfl) (by kernel_rfl) (fun _ _ _ h => h) (Or.inl ⟨by kernel_rfl, fun w' hw => by (obtain ⟨z0, z1, z2, z3, z4, z5, z6, z7, z8, z9, z10, z11⟩ := hw; go_simp)⟩) hS trivial ?_
      refine anyK_all (n := 2) (rs := [5]) (by kernel_rfl) (by simp) (fun i hi => ?_)
      simp only [List.mem_cons, List.not_mem_nil, or_false] at hi
      obtain rfl := hi
      refine wpOp_step rfl (fun K' hK => ?_)
      go_simp
      refine HW1.out.mono ?_
      rintro e w6 ⟨s3, t1, t2, t3, t4, t5, t6, f3, p3, q3, N3, D3, rfl, hv3, ⟨hN3, hD3⟩, ⟨hna1, hna2⟩, hb3⟩
      have HI6 := Lib.hid (HI1.out.all hb3)
      have hL3 := low_num hv3.val hv3.pos
      have HLB : Hid ((sumW R k + R k).num.natAbs < 2 ^ (60 + (k + 1) * (bd + 61)) ∧ (sumW R k + R k).den < 2 ^ (60 + (k + 1) * (bd + 61))) := Lib.hid ⟨Nat.lt_of_le_of_lt (by rw [← hL3.1]; exact Nat.div_le_self _ _) hN3, Nat.lt_of_le_of_lt (by rw [← hL3.2]; exact Nat.div_le_self _ _) hD3⟩
      have HLO := Lib.hid (lowest_any s3 f3 t1 t4 t2 t3 t5 t6 p3 q3 N3 D3 wr.drew.heap.size (sumW R k + R k) w6 hv3 (big_lt hv3.n hN3 HSC.out) (big_lt hv3.d hD3 HSC.out) hna1 hna2 hb3.size)
      have HSZ : Hid (b4 + 1 ≤ wr.drew.heap.size) := Lib.hid HI1.out.box.lt
      refine hK _ _ ⟨fun _ _ => ⟨(hb3.cell (p := ⟨b4, _, none⟩) HI1.out.box.lt).trans x0, (hb3.cell (p := ⟨b4, _, none⟩) HI1.out.box.lt).trans x1, (hb3.cell (p := ⟨b4, _, none⟩) HI1.out.box.lt).trans x2, (hb3.cell (p := ⟨b4, _, none⟩) HI1.out.box.lt).trans x3, (hb3.cell (p := ⟨b4, _, none⟩) HI1.out.box.lt).trans x4, (hb3.cell (p := ⟨b4, _, none⟩) HI1.out.box.lt).trans x5, (hb3.cell (p := ⟨g, _, none⟩) HG.out).trans v0, (hb3.cell (p := ⟨g, _, none⟩) HG.out).trans v1, (hb3.cell (p := ⟨g, _, none⟩) HG.out).trans v2, (hb3.cell (p := ⟨g, _, none⟩) HG.out).trans v3, (hb3.cell (p := ⟨g, _, none⟩) HG.out).trans v4, (hb3.cell (p := ⟨g, _, none⟩) HG.out).trans v5⟩, trivial, ?_⟩
      have HV6 := Lib.hid (show w6.cell? ⟨g, O, none⟩ = some (.bool s2) ∧ w6.cell? ⟨g, O + 1, none⟩ = some (.slice d1 m1 k1) ∧ w6.cell? ⟨g, O + 2, none⟩ = some (.slice d2 m2 k2) ∧ w6.cell? ⟨g, O + 3, none⟩ = some (.bool f2) ∧ w6.cell? ⟨g, O + 4, none⟩ = some (.int .i64 p2) ∧ w6.cell? ⟨g, O + 5, none⟩ = some (.int .i64 q2) from ⟨(hb3.cell (p := ⟨g, _, none⟩) HG.out).trans v0, (hb3.cell (p := ⟨g, _, none⟩) HG.out).trans v1, (hb3.cell (p := ⟨g, _, none⟩) HG.out).trans v2, (hb3.cell (p := ⟨g, _, none⟩) HG.out).trans v3, (hb3.cell (p := ⟨g, _, none⟩) HG.out).trans v4, (hb3.cell (p := ⟨g, _, none⟩) HG.out).trans v5⟩)
      have HG6 : Hid (g < w6.heap.size) := Lib.hid (Nat.lt_of_lt_of_le HG.out hb3.size)
      clear hK hS hv3 hN3 hD3 hna1 hna2 hb3 hL3 x0 x1 x2 x3 x4 x5 g0 g1 g2 g3 g4 g5 x6 v0 v1 v2 v3 v4 v5
      refine anyK_all (n := 1) (rs := [6]) (by kernel_rfl) (by simp) (fun i hi => ?_)
      simp only [List.mem_cons, List.not_mem_nil, or_false] at hi
      obtain rfl := hi
      refine wpOp_step rfl (fun K' hK => ?_)
      go_simp
      refine HLO.out.mono ?_
      rintro e w7 ⟨s5, y1, i1, j1, y2, i2, j2, f5, p5, q5, rfl, hv5, ⟨hna1, hna2⟩, hb5⟩
      have HI7 := Lib.hid (HI6.out.all hb5)
      have HV5 := Lib.hid (And.intro hv5 (And.intro hna1 hna2))
      refine hK _ _ ⟨fun _ _ => ⟨HI7.out.box.c0, HI7.out.box.c1, HI7.out.box.c2, HI7.out.box.c3, HI7.out.box.c4, HI7.out.box.c5, (hb5.cell (p := ⟨g, _, none⟩) HG6.out).trans HV6.out.1, (hb5.cell (p := ⟨g, _, none⟩) HG6.out).trans HV6.out.2.1, (hb5.cell (p := ⟨g, _, none⟩) HG6.out).trans HV6.out.2.2.1, (hb5.cell (p := ⟨g, _, none⟩) HG6.out).trans HV6.out.2.2.2.1, (hb5.cell (p := ⟨g, _, none⟩) HG6.out).trans HV6.out.2.2.2.2.1, (hb5.cell (p := ⟨g, _, none⟩) HG6.out).trans HV6.out.2.2.2.2.2⟩, trivial, ?_⟩
      clear hK hv5 hna1 hna2 hb5 HI6 HLO HV6
      obtain ⟨r0, r1, r2, r3, r4, r5, g0, g1, g2, g3, g4, g5, r6⟩ := HI7.out.box
      refine anyK_all (n := 0) (rs := [7]) (by kernel_rfl) (by simp) (fun i hi => ?_)
      simp only [List.mem_cons, List.not_mem_nil, or_false] at hi
      obtain rfl := hi
      refine wpOp_step rfl (fun K' hK => ?_)
      go_simp
      refine hK _ _ ⟨fun h => absurd rfl h, trivial, ?_⟩
      clear hK
      refine ⟨by kernel_rfl, ?_⟩
      have hlt4 := HI7.out.lt
      have HN1 := HV5.out.2.1.ne (b := b4) HSZ.out
      have HN2 := HV5.out.2.2.ne (b := b4) HSZ.out
      have hle4 : w.heap.size + 1 ≤ wr.drew.heap.size := by have := HSZ.out; omega
      have H8 := Lib.hid (show SwI w R bd b4 (k + 1) s5 y1 y2 i1 j1 i2 j2 f5 p5 q5 (sumW R k + R k).num.natAbs (sumW R k + R k).den (put6 w7 b4 (.bool s5) (.slice y1 i1 j1) (.slice y2 i2 j2) (.bool f5) (.int .i64 p5) (.int .i64 q5)) from
        ⟨HI7.out.res.oput (by omega) _ _ _ _ _ _, HI7.out.box.put _ _ _ _ _ _, HV5.out.1.put HN1 HN2 _ _ _ _ _ _, HLB.out.1, HLB.out.2, HV5.out.2.1.le hle4, HV5.out.2.2.le hle4, put6_below HI7.out.bel (by omega) _ _ _ _ _ _, hlt4⟩)
      clear r0 r1 r2 r3 r4 r5 g0 g1 g2 g3 g4 g5 r6 HI7 HV5 HN1 HN2 hle4 hlt4 HLB
      go_wp2_with fail
      have hm : n - ((k : Int) + 1).toNat < n - ((k : Int)).toNat := by omega
      refine ⟨⟨k + 1, s5, y1, y2, i1, j1, i2, j2, f5, p5, q5, _, _, by omega, by rw [show ((k + 1 : Nat) : Int) = (k : Int) + 1 from by omega], H8⟩, ?_⟩
      exact hm
    · obtain rfl : k = n := by omega
      obtain ⟨y0, y1, y2, y3, y4, y5, e0, e1, e2, e3, e4, e5, y6⟩ := HI.out.res
      have hF := Lib.hid (HI.out.v.put (b := w.heap.size) (HI.out.na.ne (by omega)) (HI.out.na2.ne (by omega)) (.bool sg) (.slice a1 l1 c1) (.slice a2 l2 c2) (.bool fine) (.int .i64 p) (.int .i64 q))
      have hne := HI.out.lt
      go_wp2_with fail
      refine bodyPost_ret (v := .agg #[.bool sg, .slice a1 l1 c1, .slice a2 l2 c2, .bool fine, .int .i64 p, .int .i64 q]) (by simp [results, Tryz.results71, go_sem, *]) rfl ?_
      have HN := Lib.hid (And.intro HI.out.n HI.out.d)
      have HNA : Hid (NewA w.heap.size a1 ∧ NewA w.heap.size a2) := Lib.hid ⟨HI.out.na.le (by omega), HI.out.na2.le (by omega)⟩
      have HB := Lib.hid (put6_below HI.out.bel (Nat.le_refl _) (.bool sg) (.slice a1 l1 c1) (.slice a2 l2 c2) (.bool fine) (.int .i64 p) (.int .i64 q))
      refine ⟨sg, a1, l1, c1, a2, l2, c2, fine, p, q, N, D, rfl, ?_⟩
      exact ⟨hF.out, HN.out, HNA.out, HB.out⟩
end B30
end Go.Proofs.YtaneocedklnajaaGreat

import Derived.Test.YtaneocedklnajaaGreatWidX
import Derived.Test.YtaneocedklnajaaGreatPMeanX
/- Lowest terms: the digits of the result lie off a block. No condition but bounds. -/
namespace Go.Proofs.YtaneocedklnajaaGreat
open Go.RowKit
set_option linter.unusedVariables false
namespace B30

/-- The digits do not lie in block b. -/
def OffB (a : Option Addr) (l b : Nat) : Prop := l ≠ 0 → ∀ g off, a = some ⟨g, off, none⟩ → g ≠ b
theorem offB_new {a : Option Addr} {l b : Nat} (h : NewA (b + 1) a) : OffB a l b := fun _ => h.ne (Nat.lt_succ_self _)
theorem offB_size {w : World} {a : Option Addr} {l n b : Nat} (h : IsBig w a l n) (hb : w.heap.size ≤ b) : OffB a l b := by
  intro hl g off e
  obtain ⟨g', off', e', c⟩ := h.rd.2 0 (by omega)
  rw [e] at e'
  cases e'
  have := World.block_lt_of_cell? w _ c
  exact fun e2 => by subst e2; exact absurd this (by show ¬ g < w.heap.size; omega)
theorem isBig_putO {w : World} {a : Option Addr} {l n b : Nat} (h : IsBig w a l n) (hn : OffB a l b) (v0 v1 v2 v3 v4 v5 : Value) : IsBig (put6 w b v0 v1 v2 v3 v4 v5) a l n := by
  rcases Nat.eq_zero_or_pos l with h0 | h0
  · exact ⟨h.sm, h.len, h.rd.1, fun j hj => by omega⟩
  · exact isBig_put h (hn (by omega)) v0 v1 v2 v3 v4 v5
theorem WvI.putO {w : World} {a1 a2 : Option Addr} {l1 c1 l2 c2 : Nat} {sg fine : Bool} {p q : Int} {N D : Nat} {r : Rat} (h : WvI w a1 a2 l1 c1 l2 c2 sg fine p q N D r) {b : Nat} (h1 : OffB a1 l1 b) (h2 : OffB a2 l2 b) (v0 v1 v2 v3 v4 v5 : Value) : WvI (put6 w b v0 v1 v2 v3 v4 v5) a1 a2 l1 c1 l2 c2 sg fine p q N D r :=
  ⟨isBig_putO h.n h1 _ _ _ _ _ _, isBig_putO h.d h2 _ _ _ _ _ _, h.cn, h.cd, h.pos, h.val, h.fin⟩
theorem low_bits {sg fine : Bool} {w : World} {a1 a2 : Option Addr} {l1 c1 l2 c2 : Nat} {p q : Int} {N D b : Nat} {r : Rat} (h : WvI w a1 a2 l1 c1 l2 c2 sg fine p q N D r) (hb : N < 2 ^ b ∧ D < 2 ^ b) : r.num.natAbs < 2 ^ b ∧ r.den < 2 ^ b := by
  obtain ⟨h1, h2⟩ := low_num h.val h.pos
  exact ⟨Nat.lt_of_le_of_lt (by rw [← h1]; exact Nat.div_le_self _ _) hb.1, Nat.lt_of_le_of_lt (by rw [← h2]; exact Nat.div_le_self _ _) hb.2⟩
/-- What lowest terms are; their digits lie off block b. -/
def RetLowO (w : World) (b : Nat) (r : Rat) (e : Ending) (w' : World) : Prop := ∃ sg a1 l1 c1 a2 l2 c2 fine p q, e = .returned (.agg #[.bool sg, .slice a1 l1 c1, .slice a2 l2 c2, .bool fine, .int .i64 p, .int .i64 q]) ∧ WvI w' a1 a2 l1 c1 l2 c2 sg fine p q r.num.natAbs r.den r ∧ (OffB a1 l1 b ∧ OffB a2 l2 b) ∧ Below w.heap.size w w'
set_option maxRecDepth 20000 in
set_option maxHeartbeats 3200000 in
theorem lowest_off (sg fine : Bool) (a1 a2 : Option Addr) (l1 c1 l2 c2 : Nat) (p q : Int) (N D B : Nat) (r : Rat) (w : World) (h : WvI w a1 a2 l1 c1 l2 c2 sg fine p q N D r) (hb1 : l1 ≤ 500000) (hb2 : l2 ≤ 500000) (hn1 : OffB a1 l1 B) (hn2 : OffB a2 l2 B) (hB : B < w.heap.size) :
    Calls Tryz.prog 103 #[.agg #[.bool sg, .slice a1 l1 c1, .slice a2 l2 c2, .bool fine, .int .i64 p, .int .i64 q]] w (RetLowO w B r) := by
  have hc0 : C6 (w.alloc (.cells #[.bool sg, .slice a1 l1 c1, .slice a2 l2 c2, .bool fine, .int .i64 p, .int .i64 q] 55)) w.heap.size (.bool sg) (.slice a1 l1 c1) (.slice a2 l2 c2) (.bool fine) (.int .i64 p) (.int .i64 q) := C6.new w _ _ _ _ _ _ _
  have hA : Below w.heap.size w (w.alloc (.cells #[.bool sg, .slice a1 l1 c1, .slice a2 l2 c2, .bool fine, .int .i64 p, .int .i64 q] 55)) := (Below.refl _ w).alloc (Nat.le_refl _) _
  have HX := Lib.hid (h.below hA)
  have HN := Lib.hid (And.intro hn1 hn2)
  have HP := Lib.hid (And.intro h.pos h.val)
  cases fine with
  | true =>
    obtain ⟨hv, hr, hN, hD⟩ := h.fin rfl
    have hlo := low_fine hv hr
    rw [← hN, ← hD] at hlo
    have HL := Lib.hid hlo
    clear hv hr hN hD hlo h hn1 hn2
    have HA := Lib.hid hA
    clear hA
    have hsz : (w.alloc (.cells #[.bool sg, .slice a1 l1 c1, .slice a2 l2 c2, .bool true, .int .i64 p, .int .i64 q] 55)).heap.size = w.heap.size + 1 := alloc_size _ _
    go_enter Tryz.func103, Tryz.ntmps103
    go_wp2_with fail
    obtain ⟨wA, hwA⟩ : ∃ w', (w.alloc (.cells #[.bool sg, .slice a1 l1 c1, .slice a2 l2 c2, .bool true, .int .i64 p, .int .i64 q] 55)) = w' := ⟨_, rfl⟩
    rw [hwA] at HA HX hc0 hsz ⊢
    clear hwA
    have HSZ := Lib.hid hsz
    clear hsz
    obtain ⟨x0, x1, x2, x3, x4, x5, _, _, _, _, _, _, _⟩ := hc0
    go_wp2_with fail
    have hc9 := C6.new wA 55 (.bool sg) (.slice a1 l1 c1) (.slice a2 l2 c2) (.bool true) (.int .i64 p) (.int .i64 q)
    rw [HSZ.out] at hc9
    obtain ⟨z0, z1, z2, z3, z4, z5, _, _, _, _, _, _, _⟩ := hc9
    refine bodyPost_ret (v := .agg #[.bool sg, .slice a1 l1 c1, .slice a2 l2 c2, .bool true, .int .i64 p, .int .i64 q]) (by simp [results, Tryz.results103, go_sem, *]) rfl ?_
    refine ⟨sg, a1, l1, c1, a2, l2, c2, true, p, q, rfl, ?_, HN.out, ?_⟩
    · rw [← HL.out.1, ← HL.out.2]
      exact HX.out.below ((Below.refl _ wA).alloc (Nat.le_refl _) _)
    · exact bthen HA.out ((Below.refl _ wA).alloc (Nat.le_refl _) _)
  | false =>
    clear HX
    have hA2 := hA.alloc (show w.heap.size ≤ (w.alloc (.cells #[.bool sg, .slice a1 l1 c1, .slice a2 l2 c2, .bool false, .int .i64 p, .int .i64 q] 55)).heap.size by rw [alloc_size]; omega) (.cells #[.bool false, .slice none 0 0, .slice none 0 0, .bool false, .int .i64 0, .int .i64 0] 55)
    have hc1 : C6 ((w.alloc (.cells #[.bool sg, .slice a1 l1 c1, .slice a2 l2 c2, .bool false, .int .i64 p, .int .i64 q] 55)).alloc (.cells #[.bool false, .slice none 0 0, .slice none 0 0, .bool false, .int .i64 0, .int .i64 0] 55)) (w.heap.size + 1) (.bool false) (.slice none 0 0) (.slice none 0 0) (.bool false) (.int .i64 0) (.int .i64 0) := by
      have := C6.new (w.alloc (.cells #[.bool sg, .slice a1 l1 c1, .slice a2 l2 c2, .bool false, .int .i64 p, .int .i64 q] 55)) 55 (.bool false) (.slice none 0 0) (.slice none 0 0) (.bool false) (.int .i64 0) (.int .i64 0)
      rw [alloc_size] at this; exact this
    have HX := Lib.hid (h.below hA2)
    clear h hn1 hn2
    have H0 := Lib.hid (And.intro hA2 (And.intro (hc0.all ((Below.refl _ _).alloc (Nat.le_refl _) (.cells #[.bool false, .slice none 0 0, .slice none 0 0, .bool false, .int .i64 0, .int .i64 0] 55))) hc1))
    clear hA hA2 hc0 hc1
    go_enter Tryz.func103, Tryz.ntmps103
    go_wp2_with fail
    obtain ⟨wA, hwA⟩ : ∃ w', ((w.alloc (.cells #[.bool sg, .slice a1 l1 c1, .slice a2 l2 c2, .bool false, .int .i64 p, .int .i64 q] 55)).alloc (.cells #[.bool false, .slice none 0 0, .slice none 0 0, .bool false, .int .i64 0, .int .i64 0] 55)) = w' := ⟨_, rfl⟩
    rw [hwA] at H0 HX ⊢
    clear hwA
    obtain ⟨x0, x1, x2, x3, x4, x5, _, _, _, _, _, _, _⟩ := H0.out.2.1
    go_wp2_with fail
    go_loopg [3, 4] D (fun g v3 v4 wr => ∃ ax lx cx ay ly cy X Y, v3 = .slice ax lx cx ∧ v4 = .slice ay ly cy ∧ Hid (g = Y ∧ IsBig wr ax lx X ∧ IsBig wr ay ly Y ∧ CapOk lx cx ∧ CapOk ly cy ∧ X.gcd Y = N.gcd D) ∧ Hid (lx ≤ 500000 ∧ ly ≤ 500000) ∧ Hid (Below wA.heap.size wA wr))
    case atStart => exact ⟨a1, l1, c1, a2, l2, c2, N, D, rfl, rfl, Lib.hid ⟨rfl, HX.out.n, HX.out.d, HX.out.cn, HX.out.cd, rfl⟩, Lib.hid ⟨hb1, hb2⟩, Lib.hid (Below.refl _ wA)⟩
    case round =>
      obtain ⟨ax, lx, cx, ay, ly, cy, X, Y, rfl, rfl, HI, HL, HBL⟩ := hrel
      rcases Nat.eq_zero_or_pos ly with rfl | hly
      · obtain ⟨x0, x1, x2, x3, x4, x5, _, _, _, _, _, _, x6⟩ := H0.out.2.1.all HBL.out
        obtain ⟨y0, y1, y2, y3, y4, y5, g0, g1, g2, g3, g4, g5, y6⟩ := H0.out.2.2.all HBL.out
        have hY0 : Y = 0 := by
          have h1 := digs_lt Y
          rw [HI.out.2.2.1.len] at h1
          simpa using h1
        have hXG : X = N.gcd D := by
          have h1 := HI.out.2.2.2.2.2
          rw [hY0, Nat.gcd_zero_right] at h1
          exact h1
        have hX0 : X ≠ 0 := by
          rw [hXG]
          exact fun e => HP.out.1 (Nat.eq_zero_of_gcd_eq_zero_right e)
        have hlo := low_num HP.out.2 HP.out.1
        rw [← hXG] at hlo
        have HG := Lib.hid (And.intro hX0 hlo)
        clear hY0 hXG hX0 hlo
        have HC1 := Lib.hid (bigSplit_any N X a1 ax l1 lx c1 cx wr hb1 HL.out.1 HG.out.1 (HX.out.n.below HBL.out) HI.out.2.1 HX.out.cn)
        go_wp2_with fail
        refine HC1.out.mono ?_
        rintro e wx ⟨d1, k1, m1, d2, k2, m2, rfl, hq, hr, ⟨hk1, hk2⟩, hb, hn⟩
        have HC2 := Lib.hid (bigSplit_any D X a2 ax l2 lx c2 cx wx hb2 HL.out.1 HG.out.1 ((HX.out.d.below HBL.out).below hb) (HI.out.2.1.below hb) HX.out.cd)
        have H1 := Lib.hid (And.intro hq (And.intro hk1 (And.intro hb hn.1)))
        clear hq hr hk1 hk2 hb hn
        clear x0 x1 x2 x3 x4 x5 x6 y0 y1 y2 y3 y4 y5 g0 g1 g2 g3 g4 g5 y6
        obtain ⟨x0, x1, x2, x3, x4, x5, _, _, _, _, _, _, x6⟩ := (H0.out.2.1.all HBL.out).all H1.out.2.2.1
        obtain ⟨y0, y1, y2, y3, y4, y5, g0, g1, g2, g3, g4, g5, y6⟩ := (H0.out.2.2.all HBL.out).all H1.out.2.2.1
        go_wp2_with fail
        refine HC2.out.mono ?_
        rintro e wy ⟨d3, k3, m3, d4, k4, m4, rfl, hq, hr, ⟨hk1, hk2⟩, hb, hn⟩
        have H2 := Lib.hid (And.intro hq (And.intro hk1 (And.intro hb hn.1)))
        clear hq hr hk1 hk2 hb hn
        clear x0 x1 x2 x3 x4 x5 x6 y0 y1 y2 y3 y4 y5 g0 g1 g2 g3 g4 g5 y6
        obtain ⟨x0, x1, x2, x3, x4, x5, _, _, _, _, _, _, x6⟩ := ((H0.out.2.1.all HBL.out).all H1.out.2.2.1).all H2.out.2.2.1
        obtain ⟨y0, y1, y2, y3, y4, y5, g0, g1, g2, g3, g4, g5, y6⟩ := ((H0.out.2.2.all HBL.out).all H1.out.2.2.1).all H2.out.2.2.1
        go_wp2_with fail
        have hn1 := H1.out.2.2.2.ne (b := w.heap.size + 1) (by have := (H0.out.2.2.all HBL.out).lt; exact this)
        have hn2 := H2.out.2.2.2.ne (b := w.heap.size + 1) (by have := ((H0.out.2.2.all HBL.out).all H1.out.2.2.1).lt; exact this)
        have hbl := bthen (bthen (bthen H0.out.1 HBL.out) H1.out.2.2.1) H2.out.2.2.1
        have hs1 : B < wr.heap.size := Nat.lt_of_lt_of_le hB (Nat.le_trans H0.out.1.size HBL.out.size)
        have hs2 : wr.heap.size ≤ wx.heap.size := H1.out.2.2.1.size
        have HF : Hid (WvI (put6 wy (w.heap.size + 1) (.bool sg) (.slice d1 m1 k1) (.slice d3 m3 k3) (.bool false) (.int .i64 0) (.int .i64 0)) d1 d3 m1 k1 m3 k3 sg false 0 0 r.num.natAbs r.den r ∧ (OffB d1 m1 B ∧ OffB d3 m3 B) ∧ Below w.heap.size w (put6 wy (w.heap.size + 1) (.bool sg) (.slice d1 m1 k1) (.slice d3 m3 k3) (.bool false) (.int .i64 0) (.int .i64 0))) := Lib.hid (by
          refine ⟨⟨?_, ?_, H1.out.2.1, H2.out.2.1, Nat.ne_of_gt r.den_pos, ?_, fun e => by simp at e⟩, ⟨offB_new (H1.out.2.2.2.le (show B + 1 ≤ wr.heap.size from hs1)), offB_new (H2.out.2.2.2.le (show B + 1 ≤ wx.heap.size by omega))⟩, put6_below hbl (by omega) _ _ _ _ _ _⟩
          · have := H1.out.1.below H2.out.2.2.1
            rw [HG.out.2.1] at this
            exact isBig_put this hn1 _ _ _ _ _ _
          · have := H2.out.1
            rw [HG.out.2.2] at this
            exact isBig_put this hn2 _ _ _ _ _ _
          · exact low_val HP.out.2 HP.out.1)
        clear hn1 hn2 hbl hs1 hs2
        refine bodyPost_ret (v := .agg #[.bool sg, .slice d1 m1 k1, .slice d3 m3 k3, .bool false, .int .i64 0, .int .i64 0]) (by simp [results, Tryz.results103, go_sem, *]) rfl ?_
        exact ⟨sg, d1, m1, k1, d3, m3, k3, false, 0, 0, rfl, HF.out⟩
      · have hly0 : (0:Int) < (ly : Int) := by omega
        have hY : Y ≠ 0 := by
          intro e
          have := HI.out.2.2.1.len
          rw [e, digs_zero] at this
          simp at this
          omega
        have HC := Lib.hid (fun h => bigSplit_any X Y ax ay lx ly cx cy wr HL.out.1 HL.out.2 h HI.out.2.1 HI.out.2.2.1 HI.out.2.2.2.1)
        have HY := Lib.hid hY
        clear hY
        go_wp2_with fail
        refine (HC.out HY.out).mono ?_
        rintro e wx ⟨d1, k1, m1, d2, k2, m2, rfl, hq, hr, ⟨hk1, hk2⟩, hb, hn⟩
        have hm2 : m2 ≤ ly := by
          refine hr.le HI.out.2.2.1.len (Nat.le_of_lt (Nat.mod_lt _ (by have := HY.out; omega)))
        have HJ := Lib.hid (show IsBig wx ay ly Y ∧ IsBig wx d2 m2 (X % Y) ∧ CapOk m2 k2 ∧ Y.gcd (X % Y) = N.gcd D from ⟨HI.out.2.2.1.below hb, hr, hk2, by rw [← HI.out.2.2.2.2.2]; exact (Nat.gcd_comm _ _).trans ((Nat.gcd_rec Y X).symm.trans (Nat.gcd_comm _ _))⟩)
        have HB2 := Lib.hid (bthen HBL.out hb)
        clear hq hr hk1 hk2 hb hn
        have hm3 := Lib.hid hm2
        clear hm2
        go_wp2_with fail
        go_roundg (X % Y)
        case measure =>
          have := HI.out.1
          rw [this]
          exact Nat.mod_lt _ (by have := HY.out; omega)
        case rel => exact ⟨ay, ly, cy, d2, m2, k2, Y, X % Y, rfl, rfl, Lib.hid ⟨rfl, HJ.out.1, HJ.out.2.1, HI.out.2.2.2.2.1, HJ.out.2.2.1, HJ.out.2.2.2⟩, Lib.hid ⟨HL.out.2, Nat.le_trans hm3.out HL.out.2⟩, HB2⟩
end B30
end Go.Proofs.YtaneocedklnajaaGreat
/- The reference's variance. No condition. -/
namespace Go.Proofs.YtaneocedklnajaaGreat
open Go.RowKit
set_option linter.unusedVariables false

theorem cellG {w w' : World} {b o : Nat} {v : Value} {ob : Option Nat} (hg : w.grownBy w' ob) (hc : w.cell? ⟨b, o, none⟩ = some v) (hn : ob ≠ some b) : w'.cell? ⟨b, o, none⟩ = some v := by
  have hb := hg.block b (World.block_lt_of_cell? w _ hc) (fun e => hn e.symm)
  rw [← hc]
  simp only [World.cell?, hb]
/-- One summand of the variance. -/
def vrR (vs fs : List Int) (MR : Rat) (k : Nat) : Rat := (mkRat (vs.getD k 0) 1 + MR) * (mkRat (vs.getD k 0) 1 + MR) * frR fs k
/-- The variance. -/
def varR (vs fs : List Int) (n : Nat) : Rat := B30.sumW (vrR vs fs (mkRat (-1) (Int.toNat 1) * B30.sumW (B30.mnR vs fs) n)) n
/-- What the reference's loop reads. -/
structure VqI (w : World) (V C : Value) (a1 a2 : Option Addr) (n : Nat) (vs fs : List Int) (bm : Nat) (sm : Bool) (a3 : Option Addr) (l3 c3 : Nat) (a4 : Option Addr) (l4 c4 : Nat) (fm : Bool) (pm qm : Int) (Nm Dm : Nat) (MR : Rat) (wr : World) : Prop where
  bx : C2 wr w.heap.size V C
  res : C2 wr (w.heap.size + 1) (.int .i64 0) (.int .i64 0)
  mb : B30.C6 wr bm (.bool sm) (.slice a3 l3 c3) (.slice a4 l4 c4) (.bool fm) (.int .i64 pm) (.int .i64 qm)
  mv : B30.WvI wr a3 a4 l3 c3 l4 c4 sm fm pm qm Nm Dm MR
  mn : Nm < 2 ^ (180 + n * 241)
  md : Dm < 2 ^ (180 + n * 241)
  val : IsInts wr a1 n vs
  cha : IsInts wr a2 (n * 2) fs
  bel : Below w.heap.size w wr
theorem VqI.all {w wr wx : World} {V C : Value} {a1 a2 : Option Addr} {n bm : Nat} {vs fs : List Int} {sm : Bool} {a3 : Option Addr} {l3 c3 : Nat} {a4 : Option Addr} {l4 c4 : Nat} {fm : Bool} {pm qm : Int} {Nm Dm : Nat} {MR : Rat} (h : VqI w V C a1 a2 n vs fs bm sm a3 l3 c3 a4 l4 c4 fm pm qm Nm Dm MR wr) (hb : Below wr.heap.size wr wx) : VqI w V C a1 a2 n vs fs bm sm a3 l3 c3 a4 l4 c4 fm pm qm Nm Dm MR wx := ⟨h.bx.all hb, h.res.all hb, h.mb.all hb, h.mv.below hb, h.mn, h.md, h.val.below hb, h.cha.below hb, bthen h.bel hb⟩
end Go.Proofs.YtaneocedklnajaaGreat
/- The program's variance, and the law. No condition. -/
namespace Go.Proofs.YtaneocedklnajaaGreat
open Go.RowKit
set_option linter.unusedVariables false

/-- The squared distance of a value from the mean. -/
def dvR (vs : List Int) (MR : Rat) (k : Nat) : Rat := (((vs.getD k 0 : Int) : Rat) - MR) * (((vs.getD k 0 : Int) : Rat) - MR)
theorem pm_var (vs fs : List Int) (MR : Rat) : ∀ n, pmR (dvR vs MR) fs n = B30.sumW (vrR vs fs (mkRat (-1) (Int.toNat 1) * MR)) n
  | 0 => rfl
  | n + 1 => by
    rw [pmR, B30.sumW, pm_var vs fs MR n]
    have e : ((vs.getD n 0 : Int) : Rat) - MR = mkRat (vs.getD n 0) 1 + mkRat (-1) (Int.toNat 1) * MR := by
      rw [mk_one, show mkRat (-1) (Int.toNat 1) = -1 from by decide]
      grind
    unfold dvR vrR
    rw [e]
theorem dv_bits {vs : List Int} {MR : Rat} {y k : Nat} (h1 : -1000000000000000 ≤ vs.getD k 0) (h2 : vs.getD k 0 ≤ 1000000000000000) (hm : bitsR MR y) : bitsR (dvR vs MR k) (50 + y + 1 + (50 + y + 1)) :=
  bits_mul (bits_sub (bits_val h1 h2) hm) (bits_sub (bits_val h1 h2) hm)
set_option maxRecDepth 20000 in
set_option maxHeartbeats 1600000 in
theorem var1_any (x : Int) (b2 y : Nat) (r : Rat) (w : World) (hx : -1000000000000000 ≤ x ∧ x ≤ 1000000000000000) (hr : RBox w b2 r) (hbits : bitsR r y) (hy : y ≤ 7200) :
    Calls Tryz.prog 52 #[.int .i64 x, .pointer (some ⟨b2, 0, none⟩)] w (RetR w ((((x : Int) : Rat) - r) * (((x : Int) : Rat) - r))) := by
  obtain ⟨u1, g1, s1, u2, g2, s2, hC3, hRV⟩ := hr
  obtain ⟨sg, hsg⟩ : ∃ sg, decide (r.num < 0) = sg := ⟨_, rfl⟩
  rw [hsg] at hC3
  have hA : Below w.heap.size w (w.alloc (.cells #[.bool false, .slice none 0 0, .slice none 0 0] 66)) := (Below.refl _ w).alloc (Nat.le_refl _) _
  have H0 := Lib.hid (And.intro (C3.new w 66 (.bool false) (.slice none 0 0) (.slice none 0 0)) (And.intro (hC3.all hA) hA))
  have HRV := Lib.hid (hRV.below hA)
  have HSG := Lib.hid hsg
  have HW := Lib.hid (fun w => whole_rr x w (by omega) (by omega))
  have HXB := Lib.hid (bits_val hx.1 hx.2)
  have HRB := Lib.hid hbits
  have HDB := Lib.hid (bits_sub (bits_val hx.1 hx.2) hbits)
  clear hC3 hRV hsg hA hbits hx
  go_enter Tryz.func52, Tryz.ntmps52
  go_wp2_with fail
  obtain ⟨wA, hwA⟩ : ∃ w', w.alloc (.cells #[.bool false, .slice none 0 0, .slice none 0 0] 66) = w' := ⟨_, rfl⟩
  rw [hwA] at H0 HRV
  try rw [hwA]
  clear hwA
  go_cut [4] (fun v4 wc => ∃ b4 : Nat, v4 = .pointer (some ⟨b4, 0, none⟩) ∧ Hid (RBox wc b4 (((x : Int) : Rat) - r) ∧ Below wA.heap.size wA wc))
  case first =>
    have HSA : Hid (∀ w', Below wA.heap.size wA w' → w'.cell? ⟨b2, 0, none⟩ = some (.bool sg) ∧ w'.cell? ⟨b2, 1, none⟩ = some (.slice u1 s1 g1) ∧ w'.cell? ⟨b2, 2, none⟩ = some (.slice u2 s2 g2)) := Lib.hid (fun w' hb => ⟨(H0.out.2.1.all hb).c0, (H0.out.2.1.all hb).c1, (H0.out.2.1.all hb).c2⟩)
    have HB0 := Lib.hid ((Below.refl wA.heap.size wA).drew)
    have hS : wA.drew.cell? ⟨b2, 0, none⟩ = some (.bool sg) ∧ wA.drew.cell? ⟨b2, 1, none⟩ = some (.slice u1 s1 g1) ∧ wA.drew.cell? ⟨b2, 2, none⟩ = some (.slice u2 s2 g2) := HSA.out _ HB0.out
    refine wp_region_any (by kernel_rfl) (any_of_K (k := 5) (S := fun w' => w'.cell? ⟨b2, 0, none⟩ = some (.bool sg) ∧ w'.cell? ⟨b2, 1, none⟩ = some (.slice u1 s1 g1) ∧ w'.cell? ⟨b2, 2, none⟩ = some (.slice u2 s2 g2)) (T := fun _ => True) _ _ _ _ ?_)
    change anyK _ _ _ _ _ _ _ _ _ _ (World.drew wA)
    obtain ⟨wD, hwD⟩ : ∃ w', wA.drew = w' := ⟨_, rfl⟩
    rw [hwD] at HB0 hS ⊢
    clear hwD
    refine anyT_take (i := 0) (n := 5) (v := .int .i64 x) rfl (by decide) (by kernel_rfl) (by kernel_rfl) (by kernel_rfl) (fun _ _ _ h => h) (Or.inl ⟨by kernel_rfl, fun w' hw => by go_simp⟩) hS trivial ?_
    refine anyK_take (i := 2) (n := 4) (v := .agg #[.bool sg, .slice u1 s1 g1, .slice u2 s2 g2]) rfl rfl (by kernel_rfl) (by kernel_rfl) (by kernel_rfl) (by kernel_rfl) (by kernel_rfl) (fun _ _ _ h => h) (Or.inl ⟨by kernel_rfl, fun w' hw => by (obtain ⟨z0, z1, z2⟩ := hw; go_simp)⟩) hS trivial ?_
    refine anyK_all (n := 3) (rs := [1, 4]) (by kernel_rfl) (by simp) (fun i hi => ?_)
    simp only [List.mem_cons, List.not_mem_nil, or_false] at hi
    rcases hi with rfl | rfl
    · refine wpOp_step rfl (fun K' hK => ?_)
      go_simp
      refine (HW.out _).mono ?_
      rintro e v1 ⟨sgw, i1, j1, m1, i2, j2, m2, rfl, hv, hb, hsg⟩
      have HB1 := Lib.hid (bthen HB0.out hb)
      have HV1 := Lib.hid (And.intro hv hsg)
      clear hv hsg
      have hS1 := HSA.out _ HB1.out
      refine hK _ _ ⟨fun _ _ => hS1, trivial, ?_⟩
      clear hK hb
      refine anyK_all (n := 2) (rs := [3, 4]) (by kernel_rfl) (by simp) (fun i hi => ?_)
      simp only [List.mem_cons, List.not_mem_nil, or_false] at hi
      rcases hi with rfl | rfl
      · refine wpOp_step rfl (fun K' hK => ?_)
        go_simp
        have HMI := Lib.hid (minus_rr ((x : Int) : Rat) r 50 y i1 i2 u1 u2 j1 j2 g1 g2 m1 m2 s1 s2 v1 HV1.out.1 (HRV.out.below HB1.out) HXB.out HRB.out (by omega) (by omega))
        rw [HSG.out, ← HV1.out.2] at HMI
        refine HMI.out.mono ?_
        rintro e v2 ⟨sgd, i3, j3, m3, i4, j4, m4, rfl, hv, hb, hsg⟩
        have HB2 := Lib.hid (bthen HB1.out hb)
        have HV2 := Lib.hid (And.intro hv hsg)
        clear hv hsg
        have hS2 := HSA.out _ HB2.out
        refine hK _ _ ⟨fun _ _ => hS2, trivial, ?_⟩
        clear hK hb
        refine anyK_all (n := 1) (rs := [4]) (by kernel_rfl) (by simp) (fun i hi => ?_)
        simp only [List.mem_cons, List.not_mem_nil, or_false] at hi
        obtain rfl := hi
        refine wpOp_step rfl (fun K' hK => ?_)
        go_simp
        have hb : Below v2.heap.size v2 (v2.alloc (.cells #[.bool false, .slice none 0 0, .slice none 0 0] 66)) := (Below.refl _ _).alloc (Nat.le_refl _) _
        have HB3 := Lib.hid (bthen HB2.out hb)
        have HX3 := Lib.hid (And.intro (C3.new v2 66 (.bool false) (.slice none 0 0) (.slice none 0 0)) HB2.out.size)
        have HV3 := Lib.hid (And.intro (HV2.out.1.below hb) HV2.out.2)
        have hS3 := HSA.out _ HB3.out
        refine hK _ _ ⟨fun _ _ => hS3, trivial, ?_⟩
        clear hK hb
        obtain ⟨v3, hw⟩ : ∃ w', v2.alloc (.cells #[.bool false, .slice none 0 0, .slice none 0 0] 66) = w' := ⟨_, rfl⟩
        obtain ⟨b3, hbb⟩ : ∃ b, v2.heap.size = b := ⟨_, rfl⟩
        rw [hw] at HB3 hS3 HV3
        rw [hw, hbb] at HX3
        rw [hw, hbb]
        clear hw hbb
        obtain ⟨y0, y1, y2, y3, y4, y5, y6⟩ := HX3.out.1
        refine anyK_all (n := 0) (rs := [5]) (by kernel_rfl) (by simp) (fun i hi => ?_)
        simp only [List.mem_cons, List.not_mem_nil, or_false] at hi
        obtain rfl := hi
        refine wpOp_step rfl (fun K' hK => ?_)
        go_simp
        refine hK _ _ ⟨fun h => absurd rfl h, trivial, ?_⟩
        clear hK
        refine ⟨by kernel_rfl, ?_⟩
        go_wp2_with fail
        go_meet
        exact ⟨_, rfl, Lib.hid ⟨⟨i3, j3, m3, i4, j4, m4, by rw [← HV3.out.2]; exact put3_box HX3.out.1 _ _ _, HV3.out.1.ints (put3_ints HX3.out.1 _ _ _)⟩, put3_below HB3.out HX3.out.2 _ _ _⟩⟩
      · refine wpOp_step rfl (fun K' hK => ?_)
        go_simp
        have hb : Below v1.heap.size v1 (v1.alloc (.cells #[.bool false, .slice none 0 0, .slice none 0 0] 66)) := (Below.refl _ _).alloc (Nat.le_refl _) _
        have HB4 := Lib.hid (bthen HB1.out hb)
        have HX4 := Lib.hid (And.intro (C3.new v1 66 (.bool false) (.slice none 0 0) (.slice none 0 0)) HB1.out.size)
        have HV4 := Lib.hid (And.intro (HV1.out.1.below hb) HV1.out.2)
        have hS4 := HSA.out _ HB4.out
        refine hK _ _ ⟨fun _ _ => hS4, trivial, ?_⟩
        clear hK hb
        obtain ⟨v4, hw⟩ : ∃ w', v1.alloc (.cells #[.bool false, .slice none 0 0, .slice none 0 0] 66) = w' := ⟨_, rfl⟩
        obtain ⟨b4, hbb⟩ : ∃ b, v1.heap.size = b := ⟨_, rfl⟩
        rw [hw] at HB4 hS4 HV4
        rw [hw, hbb] at HX4
        rw [hw, hbb]
        clear hw hbb
        refine anyK_all (n := 1) (rs := [3]) (by kernel_rfl) (by simp) (fun i hi => ?_)
        simp only [List.mem_cons, List.not_mem_nil, or_false] at hi
        obtain rfl := hi
        refine wpOp_step rfl (fun K' hK => ?_)
        go_simp
        have HMI := Lib.hid (minus_rr ((x : Int) : Rat) r 50 y i1 i2 u1 u2 j1 j2 g1 g2 m1 m2 s1 s2 v4 HV4.out.1 (HRV.out.below HB4.out) HXB.out HRB.out (by omega) (by omega))
        rw [HSG.out, ← HV4.out.2] at HMI
        refine HMI.out.mono ?_
        rintro e v5 ⟨sgd, i3, j3, m3, i4, j4, m4, rfl, hv, hb, hsg⟩
        have HB5 := Lib.hid (bthen HB4.out hb)
        have HV5 := Lib.hid (And.intro hv hsg)
        clear hv hsg
        have HX5 := Lib.hid (And.intro (HX4.out.1.all hb) HX4.out.2)
        have hS5 := HSA.out _ HB5.out
        refine hK _ _ ⟨fun _ _ => hS5, trivial, ?_⟩
        clear hK hb
        obtain ⟨y0, y1, y2, y3, y4, y5, y6⟩ := HX5.out.1
        refine anyK_all (n := 0) (rs := [5]) (by kernel_rfl) (by simp) (fun i hi => ?_)
        simp only [List.mem_cons, List.not_mem_nil, or_false] at hi
        obtain rfl := hi
        refine wpOp_step rfl (fun K' hK => ?_)
        go_simp
        refine hK _ _ ⟨fun h => absurd rfl h, trivial, ?_⟩
        clear hK
        refine ⟨by kernel_rfl, ?_⟩
        go_wp2_with fail
        go_meet
        exact ⟨_, rfl, Lib.hid ⟨⟨i3, j3, m3, i4, j4, m4, by rw [← HV5.out.2]; exact put3_box HX5.out.1 _ _ _, HV5.out.1.ints (put3_ints HX5.out.1 _ _ _)⟩, put3_below HB5.out HX5.out.2 _ _ _⟩⟩
    · refine wpOp_step rfl (fun K' hK => ?_)
      go_simp
      have hb : Below wD.heap.size wD (wD.alloc (.cells #[.bool false, .slice none 0 0, .slice none 0 0] 66)) := (Below.refl _ _).alloc (Nat.le_refl _) _
      have HB6 := Lib.hid (bthen HB0.out hb)
      have HX6 := Lib.hid (And.intro (C3.new wD 66 (.bool false) (.slice none 0 0) (.slice none 0 0)) HB0.out.size)
      have hS6 := HSA.out _ HB6.out
      refine hK _ _ ⟨fun _ _ => hS6, trivial, ?_⟩
      clear hK hb
      obtain ⟨v6, hw⟩ : ∃ w', wD.alloc (.cells #[.bool false, .slice none 0 0, .slice none 0 0] 66) = w' := ⟨_, rfl⟩
      obtain ⟨b6, hbb⟩ : ∃ b, wD.heap.size = b := ⟨_, rfl⟩
      rw [hw] at HB6 hS6
      rw [hw, hbb] at HX6
      rw [hw, hbb]
      clear hw hbb
      refine anyK_all (n := 2) (rs := [1]) (by kernel_rfl) (by simp) (fun i hi => ?_)
      simp only [List.mem_cons, List.not_mem_nil, or_false] at hi
      obtain rfl := hi
      refine wpOp_step rfl (fun K' hK => ?_)
      go_simp
      refine (HW.out _).mono ?_
      rintro e v7 ⟨sgw, i1, j1, m1, i2, j2, m2, rfl, hv, hb, hsg⟩
      have HB7 := Lib.hid (bthen HB6.out hb)
      have HV7 := Lib.hid (And.intro hv hsg)
      clear hv hsg
      have HX7 := Lib.hid (And.intro (HX6.out.1.all hb) HX6.out.2)
      have hS7 := HSA.out _ HB7.out
      refine hK _ _ ⟨fun _ _ => hS7, trivial, ?_⟩
      clear hK hb
      refine anyK_all (n := 1) (rs := [3]) (by kernel_rfl) (by simp) (fun i hi => ?_)
      simp only [List.mem_cons, List.not_mem_nil, or_false] at hi
      obtain rfl := hi
      refine wpOp_step rfl (fun K' hK => ?_)
      go_simp
      have HMI := Lib.hid (minus_rr ((x : Int) : Rat) r 50 y i1 i2 u1 u2 j1 j2 g1 g2 m1 m2 s1 s2 v7 HV7.out.1 (HRV.out.below HB7.out) HXB.out HRB.out (by omega) (by omega))
      rw [HSG.out, ← HV7.out.2] at HMI
      refine HMI.out.mono ?_
      rintro e v8 ⟨sgd, i3, j3, m3, i4, j4, m4, rfl, hv, hb, hsg⟩
      have HB8 := Lib.hid (bthen HB7.out hb)
      have HV8 := Lib.hid (And.intro hv hsg)
      clear hv hsg
      have HX8 := Lib.hid (And.intro (HX7.out.1.all hb) HX7.out.2)
      have hS8 := HSA.out _ HB8.out
      refine hK _ _ ⟨fun _ _ => hS8, trivial, ?_⟩
      clear hK hb
      obtain ⟨y0, y1, y2, y3, y4, y5, y6⟩ := HX8.out.1
      refine anyK_all (n := 0) (rs := [5]) (by kernel_rfl) (by simp) (fun i hi => ?_)
      simp only [List.mem_cons, List.not_mem_nil, or_false] at hi
      obtain rfl := hi
      refine wpOp_step rfl (fun K' hK => ?_)
      go_simp
      refine hK _ _ ⟨fun h => absurd rfl h, trivial, ?_⟩
      clear hK
      refine ⟨by kernel_rfl, ?_⟩
      go_wp2_with fail
      go_meet
      exact ⟨_, rfl, Lib.hid ⟨⟨i3, j3, m3, i4, j4, m4, by rw [← HV8.out.2]; exact put3_box HX8.out.1 _ _ _, HV8.out.1.ints (put3_ints HX8.out.1 _ _ _)⟩, put3_below HB8.out HX8.out.2 _ _ _⟩⟩
  case rest =>
    obtain ⟨b4, rfl, HC⟩ := hcut
    obtain ⟨a1, c1, l1, a2, c2, l2, hC4, hRV4⟩ := HC.out.1
    obtain ⟨sd, hsd⟩ : ∃ sd, decide ((((x : Int) : Rat) - r).num < 0) = sd := ⟨_, rfl⟩
    rw [hsd] at hC4
    have HTM := Lib.hid (times_rr (((x : Int) : Rat) - r) (((x : Int) : Rat) - r) (50 + y + 1) (50 + y + 1) a1 a2 a1 a2 c1 c2 c1 c2 l1 l2 l1 l2 wc hRV4 hRV4 HDB.out HDB.out (by omega) (by omega))
    rw [hsd] at HTM
    have H1 := Lib.hid (And.intro (H0.out.1.all HC.out.2) (bthen H0.out.2.2 HC.out.2))
    clear hRV4 hsd HC H0 HW HXB HRB HDB HRV HSG
    obtain ⟨z0, z1, z2, z3, z4, z5, z6⟩ := hC4
    go_wp2_with fail
    refine HTM.out.mono ?_
    rintro e w5 ⟨sq, q1, k1, n1, q2, k2, n2, rfl, hv, hb, hsq⟩
    have H5 := Lib.hid (And.intro (H1.out.1.all hb) (bthen H1.out.2 hb))
    have HV := Lib.hid (And.intro hv hsq)
    clear hv hb hsq H1 HTM z0 z1 z2 z3 z4 z5 z6
    obtain ⟨y0, y1, y2, y3, y4, y5, y6⟩ := H5.out.1
    go_wp2_with fail
    refine bodyPost_ret (v := .agg #[.bool sq, .slice q1 n1 k1, .slice q2 n2 k2]) (by simp [results, Tryz.results52, go_sem, *]) rfl ?_
    exact ⟨sq, q1, k1, n1, q2, k2, n2, rfl, HV.out.1.ints (put3_ints H5.out.1 _ _ _), put3_below H5.out.2 (by omega) _ _ _, HV.out.2⟩
set_option maxHeartbeats 1600000 in
theorem varianceOf_any (a1 a2 : Option Addr) (n m c1 c2 : Nat) (vs fs : List Int) (w : World) (hn : n ≤ 1048576) (hm : m ≤ 1048576) (h1 : IsInts w a1 n vs) (h2 : IsInts w a2 (m * 2) fs) :
    Calls Tryz.prog 20 #[.agg #[.slice a1 n c1, .slice a2 m c2]] w fun e w' => e = .returned (lrV vs fs n m (varR vs fs n)) ∧ Below w.heap.size w w' := by
  have hl := h1.1
  have hA : Below w.heap.size w ((w.alloc (.cells #[.slice a1 n c1, .slice a2 m c2] 29)).alloc (.cells #[.int .i64 0, .int .i64 0] 40)) := ((Below.refl _ w).alloc (Nat.le_refl _) _).alloc (by simp) _
  have hc0 : C2 ((w.alloc (.cells #[.slice a1 n c1, .slice a2 m c2] 29)).alloc (.cells #[.int .i64 0, .int .i64 0] 40)) w.heap.size (.slice a1 n c1) (.slice a2 m c2) := (C2.new w _ _ _).all ((Below.refl _ _).alloc (Nat.le_refl _) _)
  have hc1 : C2 ((w.alloc (.cells #[.slice a1 n c1, .slice a2 m c2] 29)).alloc (.cells #[.int .i64 0, .int .i64 0] 40)) (w.heap.size + 1) (.int .i64 0) (.int .i64 0) := by
    have := C2.new (w.alloc (.cells #[.slice a1 n c1, .slice a2 m c2] 29)) 40 (.int .i64 0) (.int .i64 0)
    rw [alloc_size] at this; exact this
  have H0 := Lib.hid (And.intro hc0 (And.intro hc1 (And.intro (h1.below hA) (And.intro (h2.below hA) hA))))
  have HV := Lib.hid (fun w h1 h2 => validLaw_any a1 a2 n m c1 c2 vs fs w hn hm h1 h2)
  clear hA hc0 hc1 h1 h2
  obtain ⟨ok, hok⟩ : ∃ ok, lawOk vs fs n m = ok := ⟨_, rfl⟩
  rw [hok] at HV
  have HQ := Lib.hid hok
  have HL := Lib.hid hl
  clear hok hl
  go_enter Tryz.func20, Tryz.ntmps20
  go_wp2_with fail
  obtain ⟨wA, hwA⟩ : ∃ w', ((w.alloc (.cells #[.slice a1 n c1, .slice a2 m c2] 29)).alloc (.cells #[.int .i64 0, .int .i64 0] 40)) = w' := ⟨_, rfl⟩
  rw [hwA] at H0 ⊢
  clear hwA
  refine (HV.out _ H0.out.2.2.1 H0.out.2.2.2.1).mono ?_
  rintro e w1 ⟨rfl, hb⟩
  have H1 := Lib.hid (And.intro (H0.out.1.all hb) (And.intro (H0.out.2.1.all hb) (And.intro (H0.out.2.2.1.below hb) (And.intro (H0.out.2.2.2.1.below hb) (bthen H0.out.2.2.2.2 hb)))))
  clear hb H0
  obtain ⟨x0, x1, x2, x3, x4⟩ := H1.out.1
  obtain ⟨y0, y1, y2, y3, y4⟩ := H1.out.2.1
  cases ok with
  | false =>
    have HC := Lib.hid (show lrV vs fs n m (varR vs fs n) = zeroF by unfold lrV; rw [HQ.out]; rfl)
    go_wp2_with fail
    refine bodyPost_ret (v := .tuple #[.agg #[.int .i64 0, .int .i64 0], .bool false]) (by simp [results, Tryz.results20, go_sem, *]) rfl ⟨by rw [HC.out]; rfl, ?_⟩
    exact below_two H1.out.2.2.2.2 (by omega) _ _
  | true =>
    obtain ⟨rfl, hq⟩ := lawQ_of HL.out HQ.out
    obtain ⟨p, q, b', hform⟩ := fracV_form' (varR vs fs m)
    have HC := Lib.hid (show lrV vs fs m m (varR vs fs m) = .tuple #[.agg #[.int .i64 p, .int .i64 q], .bool b'] by unfold lrV; rw [HQ.out, if_pos rfl, hform])
    have hvb : ∀ k, k < m → bitsR ((vs.getD k 0 : Int) : Rat) 50 := fun k hk => bits_val (hq.rng k hk).1 (hq.rng k hk).2
    have HS := Lib.hid (pmean0_any 32 (fun k => ((vs.getD k 0 : Int) : Rat)) 50 a1 a2 m c1 c2 vs fs w1 hq.n64 (by omega) H1.out.2.2.1 H1.out.2.2.2.1 hq.ok hvb (fun _ _ => by kernel_rfl) (fun k hk wr hb => whole_rr (vs.getD k 0) wr (by have := hq.rng k hk; omega) (by have := hq.rng k hk; omega)))
    have hB := pm_bits (G := fun k => ((vs.getD k 0 : Int) : Rat)) (fs := fs) (n := m) hq.ok hvb
    have hm64 := hq.n64
    rw [pm_sum] at HS hB
    obtain ⟨MR, hMR⟩ : ∃ MR, B30.sumW (B30.mnR vs fs) m = MR := ⟨_, rfl⟩
    rw [hMR] at HS hB
    have hB2 : bitsR MR 7200 := hB.mono (by omega)
    have HMB := Lib.hid hB2
    have HVR := Lib.hid (show pmR (dvR vs MR) fs m = varR vs fs m by rw [pm_var]; unfold varR; rw [hMR])
    have hdb : ∀ k, k < m → bitsR (dvR vs MR k) 14502 := fun k hk => (dv_bits (hq.rng k hk).1 (hq.rng k hk).2 hB2).mono (by omega)
    have HDB := Lib.hid hdb
    have HB := Lib.hid (pm_bits (G := dvR vs MR) (fs := fs) (n := m) hq.ok hdb)
    have HQQ := Lib.hid hq
    have HFO := Lib.hid hform
    clear hform hq hvb hB hB2 hdb hMR
    go_wp2_with fail
    refine HS.out.mono ?_
    rintro e w2 ⟨sg, d1, k1, l1, d2, k2, l2, rfl, hv, hb, hsg⟩
    have hb2 : Below w2.heap.size w2 (w2.alloc (.cells #[.bool sg, .slice d1 l1 k1, .slice d2 l2 k2] 66)) := (Below.refl _ _).alloc (Nat.le_refl _) _
    have hbb := bthen hb hb2
    have H2 := Lib.hid (And.intro (H1.out.1.all hbb) (And.intro (H1.out.2.1.all hbb) (And.intro (H1.out.2.2.1.below hbb) (And.intro (H1.out.2.2.2.1.below hbb) (And.intro (bthen H1.out.2.2.2.2 hbb)
      (show RBox (w2.alloc (.cells #[.bool sg, .slice d1 l1 k1, .slice d2 l2 k2] 66)) w2.heap.size MR from ⟨d1, k1, l1, d2, k2, l2, by rw [← hsg]; exact C3.new w2 _ _ _ _, hv.below hb2⟩))))))
    clear hb hb2 hbb hsg hv H1 x0 x1 x2 x3 x4 y0 y1 y2 y3 y4 HS
    obtain ⟨x0, x1, x2, x3, x4⟩ := H2.out.1
    go_wp2_with fail
    obtain ⟨b6, hb6⟩ : ∃ b, w2.heap.size = b := ⟨_, rfl⟩
    obtain ⟨w3, hw3⟩ : ∃ w', w2.alloc (.cells #[.bool sg, .slice d1 l1 k1, .slice d2 l2 k2] 66) = w' := ⟨_, rfl⟩
    rw [hw3, hb6] at H2
    rw [hw3, hb6]
    rw [hw3] at x0 x1 x2 x3 x4
    clear hw3 hb6
    have HS := pmean1_any ⟨b6, 0, none⟩ 52 (dvR vs MR) 14502 a1 a2 m c1 c2 vs fs w3 hm64 (by omega) H2.out.2.2.1 H2.out.2.2.2.1 HQQ.out.ok HDB.out (fun _ _ => by kernel_rfl) (fun k hk wr hb =>
      var1_any (vs.getD k 0) b6 7200 MR wr (HQQ.out.rng k hk) (H2.out.2.2.2.2.2.all hb) HMB.out (by omega))
    rw [HVR.out] at HS HB
    have HS2 := Lib.hid HS
    clear HS
    refine HS2.out.mono ?_
    rintro e w4 ⟨sg2, e1, f1, n1, e2, f2, n2, rfl, hv, hb, hsg⟩
    have HFR := Lib.hid (fraction_rr (varR vs fs m) ((14502 + 61) * m + 1) e1 e2 f1 f2 n1 n2 w4 hv HB.out (by omega))
    rw [HFO.out, ← hsg] at HFR
    have H4 := Lib.hid (And.intro (H2.out.2.1.all hb) (bthen H2.out.2.2.2.2.1 hb))
    clear hb x0 x1 x2 x3 x4 hv hsg
    obtain ⟨y0, y1, y2, y3, y4⟩ := H4.out.1
    go_wp2_with fail
    refine HFR.out.mono ?_
    rintro e w5 ⟨rfl, hb⟩
    have H5 := Lib.hid (And.intro (H4.out.1.all hb) (bthen H4.out.2 hb))
    clear hb y0 y1 y2 y3 y4
    obtain ⟨y0, y1, y2, y3, y4⟩ := H5.out.1
    go_wp2_with fail
    refine bodyPost_ret (v := .tuple #[.agg #[.int .i64 p, .int .i64 q], .bool b']) (by simp [results, Tryz.results20, go_sem, *]) rfl ⟨by rw [HC.out], ?_⟩
    exact below_two H5.out.2 (by omega) _ _
end Go.Proofs.YtaneocedklnajaaGreat

import Derived.Test.YtklnfhjgbmfilaaWidX
import Derived.Test.YtklnfhjgbmfilaaPMeanX
/- Lowest terms: the digits of the result lie off a block. No condition but bounds. -/
namespace Go.Proofs.Ytklnfhjgbmfilaa
open Go.RowKit
set_option linter.unusedVariables false
namespace B30

/-- The digits do not lie in block b. -/
def OffB (a : Option Addr) (l b : Nat) : Prop := l ≠ 0 → ∀ g off, a = some ⟨g, off, none⟩ → g ≠ b
theorem offB_new {a : Option Addr} {l b : Nat} (h : NewA (b + 1) a) : OffB a l b := fun _ => h.ne (Nat.lt_succ_self _)
theorem offB_size {w : World} {a : Option Addr} {l n b : Nat} (h : IsBig w a l n) (hb : w.heap.size ≤ b) : OffB a l b := by
  intro hl g off e
  obtain ⟨g', off', e', c⟩ := h.rd.2 0 (by omega)
  rw [e] at e'
  cases e'
  have := World.block_lt_of_cell? w _ c
  exact fun e2 => by subst e2; exact absurd this (by show ¬ g < w.heap.size; omega)
theorem isBig_putO {w : World} {a : Option Addr} {l n b : Nat} (h : IsBig w a l n) (hn : OffB a l b) (v0 v1 v2 v3 v4 v5 : Value) : IsBig (put6 w b v0 v1 v2 v3 v4 v5) a l n := by
  rcases Nat.eq_zero_or_pos l with h0 | h0
  · exact ⟨h.sm, h.len, h.rd.1, fun j hj => by omega⟩
  · exact isBig_put h (hn (by omega)) v0 v1 v2 v3 v4 v5
theorem WvI.putO {w : World} {a1 a2 : Option Addr} {l1 c1 l2 c2 : Nat} {sg fine : Bool} {p q : Int} {N D : Nat} {r : Rat} (h : WvI w a1 a2 l1 c1 l2 c2 sg fine p q N D r) {b : Nat} (h1 : OffB a1 l1 b) (h2 : OffB a2 l2 b) (v0 v1 v2 v3 v4 v5 : Value) : WvI (put6 w b v0 v1 v2 v3 v4 v5) a1 a2 l1 c1 l2 c2 sg fine p q N D r :=
  ⟨isBig_putO h.n h1 _ _ _ _ _ _, isBig_putO h.d h2 _ _ _ _ _ _, h.cn, h.cd, h.pos, h.val, h.fin⟩
theorem low_bits {sg fine : Bool} {w : World} {a1 a2 : Option Addr} {l1 c1 l2 c2 : Nat} {p q : Int} {N D b : Nat} {r : Rat} (h : WvI w a1 a2 l1 c1 l2 c2 sg fine p q N D r) (hb : N < 2 ^ b ∧ D < 2 ^ b) : r.num.natAbs < 2 ^ b ∧ r.den < 2 ^ b := by
  obtain ⟨h1, h2⟩ := low_num h.val h.pos
  exact ⟨Nat.lt_of_le_of_lt (by rw [← h1]; exact Nat.div_le_self _ _) hb.1, Nat.lt_of_le_of_lt (by rw [← h2]; exact Nat.div_le_self _ _) hb.2⟩
/-- What lowest terms are; their digits lie off block b. -/
def RetLowO (w : World) (b : Nat) (r : Rat) (e : Ending) (w' : World) : Prop := ∃ sg a1 l1 c1 a2 l2 c2 fine p q, e = .returned (.agg #[.bool sg, .slice a1 l1 c1, .slice a2 l2 c2, .bool fine, .int .i64 p, .int .i64 q]) ∧ WvI w' a1 a2 l1 c1 l2 c2 sg fine p q r.num.natAbs r.den r ∧ (OffB a1 l1 b ∧ OffB a2 l2 b) ∧ Below w.heap.size w w'
set_option maxRecDepth 20000 in
set_option maxHeartbeats 3200000 in
theorem lowest_off (sg fine : Bool) (a1 a2 : Option Addr) (l1 c1 l2 c2 : Nat) (p q : Int) (N D B : Nat) (r : Rat) (w : World) (h : WvI w a1 a2 l1 c1 l2 c2 sg fine p q N D r) (hb1 : l1 ≤ 500000) (hb2 : l2 ≤ 500000) (hn1 : OffB a1 l1 B) (hn2 : OffB a2 l2 B) (hB : B < w.heap.size) :
    Calls Try.prog 65 #[.agg #[.bool sg, .slice a1 l1 c1, .slice a2 l2 c2, .bool fine, .int .i64 p, .int .i64 q]] w (RetLowO w B r) := by
  have hc0 : C6 (w.alloc (.cells #[.bool sg, .slice a1 l1 c1, .slice a2 l2 c2, .bool fine, .int .i64 p, .int .i64 q] 97)) w.heap.size (.bool sg) (.slice a1 l1 c1) (.slice a2 l2 c2) (.bool fine) (.int .i64 p) (.int .i64 q) := C6.new w _ _ _ _ _ _ _
  have hA : Below w.heap.size w (w.alloc (.cells #[.bool sg, .slice a1 l1 c1, .slice a2 l2 c2, .bool fine, .int .i64 p, .int .i64 q] 97)) := (Below.refl _ w).alloc (Nat.le_refl _) _
  have HX := Lib.hid (h.below hA)
  have HN := Lib.hid (And.intro hn1 hn2)
  have HP := Lib.hid (And.intro h.pos h.val)
  cases fine with
  | true =>
    obtain ⟨hv, hr, hN, hD⟩ := h.fin rfl
    have hlo := low_fine hv hr
    rw [← hN, ← hD] at hlo
    have HL := Lib.hid hlo
    clear hv hr hN hD hlo h hn1 hn2
    have HA := Lib.hid hA
    clear hA
    have hsz : (w.alloc (.cells #[.bool sg, .slice a1 l1 c1, .slice a2 l2 c2, .bool true, .int .i64 p, .int .i64 q] 97)).heap.size = w.heap.size + 1 := alloc_size _ _
    go_enter Try.func65, Try.ntmps65
    go_wp2_with fail
    obtain ⟨wA, hwA⟩ : ∃ w', (w.alloc (.cells #[.bool sg, .slice a1 l1 c1, .slice a2 l2 c2, .bool true, .int .i64 p, .int .i64 q] 97)) = w' := ⟨_, rfl⟩
    rw [hwA] at HA HX hc0 hsz ⊢
    clear hwA
    have HSZ := Lib.hid hsz
    clear hsz
    obtain ⟨x0, x1, x2, x3, x4, x5, _, _, _, _, _, _, _⟩ := hc0
    go_wp2_with fail
    have hc9 := C6.new wA 97 (.bool sg) (.slice a1 l1 c1) (.slice a2 l2 c2) (.bool true) (.int .i64 p) (.int .i64 q)
    rw [HSZ.out] at hc9
    obtain ⟨z0, z1, z2, z3, z4, z5, _, _, _, _, _, _, _⟩ := hc9
    refine bodyPost_ret (v := .agg #[.bool sg, .slice a1 l1 c1, .slice a2 l2 c2, .bool true, .int .i64 p, .int .i64 q]) (by simp [results, Try.results65, go_sem, *]) rfl ?_
    refine ⟨sg, a1, l1, c1, a2, l2, c2, true, p, q, rfl, ?_, HN.out, ?_⟩
    · rw [← HL.out.1, ← HL.out.2]
      exact HX.out.below ((Below.refl _ wA).alloc (Nat.le_refl _) _)
    · exact bthen HA.out ((Below.refl _ wA).alloc (Nat.le_refl _) _)
  | false =>
    clear HX
    have hA2 := hA.alloc (show w.heap.size ≤ (w.alloc (.cells #[.bool sg, .slice a1 l1 c1, .slice a2 l2 c2, .bool false, .int .i64 p, .int .i64 q] 97)).heap.size by rw [alloc_size]; omega) (.cells #[.bool false, .slice none 0 0, .slice none 0 0, .bool false, .int .i64 0, .int .i64 0] 97)
    have hc1 : C6 ((w.alloc (.cells #[.bool sg, .slice a1 l1 c1, .slice a2 l2 c2, .bool false, .int .i64 p, .int .i64 q] 97)).alloc (.cells #[.bool false, .slice none 0 0, .slice none 0 0, .bool false, .int .i64 0, .int .i64 0] 97)) (w.heap.size + 1) (.bool false) (.slice none 0 0) (.slice none 0 0) (.bool false) (.int .i64 0) (.int .i64 0) := by
      have := C6.new (w.alloc (.cells #[.bool sg, .slice a1 l1 c1, .slice a2 l2 c2, .bool false, .int .i64 p, .int .i64 q] 97)) 97 (.bool false) (.slice none 0 0) (.slice none 0 0) (.bool false) (.int .i64 0) (.int .i64 0)
      rw [alloc_size] at this; exact this
    have HX := Lib.hid (h.below hA2)
    clear h hn1 hn2
    have H0 := Lib.hid (And.intro hA2 (And.intro (hc0.all ((Below.refl _ _).alloc (Nat.le_refl _) (.cells #[.bool false, .slice none 0 0, .slice none 0 0, .bool false, .int .i64 0, .int .i64 0] 97))) hc1))
    clear hA hA2 hc0 hc1
    go_enter Try.func65, Try.ntmps65
    go_wp2_with fail
    obtain ⟨wA, hwA⟩ : ∃ w', ((w.alloc (.cells #[.bool sg, .slice a1 l1 c1, .slice a2 l2 c2, .bool false, .int .i64 p, .int .i64 q] 97)).alloc (.cells #[.bool false, .slice none 0 0, .slice none 0 0, .bool false, .int .i64 0, .int .i64 0] 97)) = w' := ⟨_, rfl⟩
    rw [hwA] at H0 HX ⊢
    clear hwA
    obtain ⟨x0, x1, x2, x3, x4, x5, _, _, _, _, _, _, _⟩ := H0.out.2.1
    go_wp2_with fail
    go_loopg [3, 4] D (fun g v3 v4 wr => ∃ ax lx cx ay ly cy X Y, v3 = .slice ax lx cx ∧ v4 = .slice ay ly cy ∧ Hid (g = Y ∧ IsBig wr ax lx X ∧ IsBig wr ay ly Y ∧ CapOk lx cx ∧ CapOk ly cy ∧ X.gcd Y = N.gcd D) ∧ Hid (lx ≤ 500000 ∧ ly ≤ 500000) ∧ Hid (Below wA.heap.size wA wr))
    case atStart => exact ⟨a1, l1, c1, a2, l2, c2, N, D, rfl, rfl, Lib.hid ⟨rfl, HX.out.n, HX.out.d, HX.out.cn, HX.out.cd, rfl⟩, Lib.hid ⟨hb1, hb2⟩, Lib.hid (Below.refl _ wA)⟩
    case round =>
      obtain ⟨ax, lx, cx, ay, ly, cy, X, Y, rfl, rfl, HI, HL, HBL⟩ := hrel
      rcases Nat.eq_zero_or_pos ly with rfl | hly
      · obtain ⟨x0, x1, x2, x3, x4, x5, _, _, _, _, _, _, x6⟩ := H0.out.2.1.all HBL.out
        obtain ⟨y0, y1, y2, y3, y4, y5, g0, g1, g2, g3, g4, g5, y6⟩ := H0.out.2.2.all HBL.out
        have hY0 : Y = 0 := by
          have h1 := digs_lt Y
          rw [HI.out.2.2.1.len] at h1
          simpa using h1
        have hXG : X = N.gcd D := by
          have h1 := HI.out.2.2.2.2.2
          rw [hY0, Nat.gcd_zero_right] at h1
          exact h1
        have hX0 : X ≠ 0 := by
          rw [hXG]
          exact fun e => HP.out.1 (Nat.eq_zero_of_gcd_eq_zero_right e)
        have hlo := low_num HP.out.2 HP.out.1
        rw [← hXG] at hlo
        have HG := Lib.hid (And.intro hX0 hlo)
        clear hY0 hXG hX0 hlo
        have HC1 := Lib.hid (bigSplit_any N X a1 ax l1 lx c1 cx wr hb1 HL.out.1 HG.out.1 (HX.out.n.below HBL.out) HI.out.2.1 HX.out.cn)
        go_wp2_with fail
        refine HC1.out.mono ?_
        rintro e wx ⟨d1, k1, m1, d2, k2, m2, rfl, hq, hr, ⟨hk1, hk2⟩, hb, hn⟩
        have HC2 := Lib.hid (bigSplit_any D X a2 ax l2 lx c2 cx wx hb2 HL.out.1 HG.out.1 ((HX.out.d.below HBL.out).below hb) (HI.out.2.1.below hb) HX.out.cd)
        have H1 := Lib.hid (And.intro hq (And.intro hk1 (And.intro hb hn.1)))
        clear hq hr hk1 hk2 hb hn
        clear x0 x1 x2 x3 x4 x5 x6 y0 y1 y2 y3 y4 y5 g0 g1 g2 g3 g4 g5 y6
        obtain ⟨x0, x1, x2, x3, x4, x5, _, _, _, _, _, _, x6⟩ := (H0.out.2.1.all HBL.out).all H1.out.2.2.1
        obtain ⟨y0, y1, y2, y3, y4, y5, g0, g1, g2, g3, g4, g5, y6⟩ := (H0.out.2.2.all HBL.out).all H1.out.2.2.1
        go_wp2_with fail
        refine HC2.out.mono ?_
        rintro e wy ⟨d3, k3, m3, d4, k4, m4, rfl, hq, hr, ⟨hk1, hk2⟩, hb, hn⟩
        have H2 := Lib.hid (And.intro hq (And.intro hk1 (And.intro hb hn.1)))
        clear hq hr hk1 hk2 hb hn
        clear x0 x1 x2 x3 x4 x5 x6 y0 y1 y2 y3 y4 y5 g0 g1 g2 g3 g4 g5 y6
        obtain ⟨x0, x1, x2, x3, x4, x5, _, _, _, _, _, _, x6⟩ := ((H0.out.2.1.all HBL.out).all H1.out.2.2.1).all H2.out.2.2.1
        obtain ⟨y0, y1, y2, y3, y4, y5, g0, g1, g2, g3, g4, g5, y6⟩ := ((H0.out.2.2.all HBL.out).all H1.out.2.2.1).all H2.out.2.2.1
        go_wp2_with fail
        have hn1 := H1.out.2.2.2.ne (b := w.heap.size + 1) (by have := (H0.out.2.2.all HBL.out).lt; exact this)
        have hn2 := H2.out.2.2.2.ne (b := w.heap.size + 1) (by have := ((H0.out.2.2.all HBL.out).all H1.out.2.2.1).lt; exact this)
        have hbl := bthen (bthen (bthen H0.out.1 HBL.out) H1.out.2.2.1) H2.out.2.2.1
        have hs1 : B < wr.heap.size := Nat.lt_of_lt_of_le hB (Nat.le_trans H0.out.1.size HBL.out.size)
        have hs2 : wr.heap.size ≤ wx.heap.size := H1.out.2.2.1.size
        have HF : Hid (WvI (put6 wy (w.heap.size + 1) (.bool sg) (.slice d1 m1 k1) (.slice d3 m3 k3) (.bool false) (.int .i64 0) (.int .i64 0)) d1 d3 m1 k1 m3 k3 sg false 0 0 r.num.natAbs r.den r ∧ (OffB d1 m1 B ∧ OffB d3 m3 B) ∧ Below w.heap.size w (put6 wy (w.heap.size + 1) (.bool sg) (.slice d1 m1 k1) (.slice d3 m3 k3) (.bool false) (.int .i64 0) (.int .i64 0))) := Lib.hid (by
          refine ⟨⟨?_, ?_, H1.out.2.1, H2.out.2.1, Nat.ne_of_gt r.den_pos, ?_, fun e => by simp at e⟩, ⟨offB_new (H1.out.2.2.2.le (show B + 1 ≤ wr.heap.size from hs1)), offB_new (H2.out.2.2.2.le (show B + 1 ≤ wx.heap.size by omega))⟩, put6_below hbl (by omega) _ _ _ _ _ _⟩
          · have := H1.out.1.below H2.out.2.2.1
            rw [HG.out.2.1] at this
            exact isBig_put this hn1 _ _ _ _ _ _
          · have := H2.out.1
            rw [HG.out.2.2] at this
            exact isBig_put this hn2 _ _ _ _ _ _
          · exact low_val HP.out.2 HP.out.1)
        clear hn1 hn2 hbl hs1 hs2
        refine bodyPost_ret (v := .agg #[.bool sg, .slice d1 m1 k1, .slice d3 m3 k3, .bool false, .int .i64 0, .int .i64 0]) (by simp [results, Try.results65, go_sem, *]) rfl ?_
        exact ⟨sg, d1, m1, k1, d3, m3, k3, false, 0, 0, rfl, HF.out⟩
      · have hly0 : (0:Int) < (ly : Int) := by omega
        have hY : Y ≠ 0 := by
          intro e
          have := HI.out.2.2.1.len
          rw [e, digs_zero] at this
          simp at this
          omega
        have HC := Lib.hid (fun h => bigSplit_any X Y ax ay lx ly cx cy wr HL.out.1 HL.out.2 h HI.out.2.1 HI.out.2.2.1 HI.out.2.2.2.1)
        have HY := Lib.hid hY
        clear hY
        go_wp2_with fail
        refine (HC.out HY.out).mono ?_
        rintro e wx ⟨d1, k1, m1, d2, k2, m2, rfl, hq, hr, ⟨hk1, hk2⟩, hb, hn⟩
        have hm2 : m2 ≤ ly := by
          refine hr.le HI.out.2.2.1.len (Nat.le_of_lt (Nat.mod_lt _ (by have := HY.out; omega)))
        have HJ := Lib.hid (show IsBig wx ay ly Y ∧ IsBig wx d2 m2 (X % Y) ∧ CapOk m2 k2 ∧ Y.gcd (X % Y) = N.gcd D from ⟨HI.out.2.2.1.below hb, hr, hk2, by rw [← HI.out.2.2.2.2.2]; exact (Nat.gcd_comm _ _).trans ((Nat.gcd_rec Y X).symm.trans (Nat.gcd_comm _ _))⟩)
        have HB2 := Lib.hid (bthen HBL.out hb)
        clear hq hr hk1 hk2 hb hn
        have hm3 := Lib.hid hm2
        clear hm2
        go_wp2_with fail
        go_roundg (X % Y)
        case measure =>
          have := HI.out.1
          rw [this]
          exact Nat.mod_lt _ (by have := HY.out; omega)
        case rel => exact ⟨ay, ly, cy, d2, m2, k2, Y, X % Y, rfl, rfl, Lib.hid ⟨rfl, HJ.out.1, HJ.out.2.1, HI.out.2.2.2.2.1, HJ.out.2.2.1, HJ.out.2.2.2⟩, Lib.hid ⟨HL.out.2, Nat.le_trans hm3.out HL.out.2⟩, HB2⟩
end B30
end Go.Proofs.Ytklnfhjgbmfilaa
/- The reference's variance. No condition. -/
namespace Go.Proofs.Ytklnfhjgbmfilaa
open Go.RowKit
set_option linter.unusedVariables false

theorem cellG {w w' : World} {b o : Nat} {v : Value} {ob : Option Nat} (hg : w.grownBy w' ob) (hc : w.cell? ⟨b, o, none⟩ = some v) (hn : ob ≠ some b) : w'.cell? ⟨b, o, none⟩ = some v := by
  have hb := hg.block b (World.block_lt_of_cell? w _ hc) (fun e => hn e.symm)
  rw [← hc]
  simp only [World.cell?, hb]
/-- One summand of the variance. -/
def vrR (vs fs : List Int) (MR : Rat) (k : Nat) : Rat := (mkRat (vs.getD k 0) 1 + MR) * (mkRat (vs.getD k 0) 1 + MR) * frR fs k
/-- The variance. -/
def varR (vs fs : List Int) (n : Nat) : Rat := B30.sumW (vrR vs fs (mkRat (-1) (Int.toNat 1) * B30.sumW (B30.mnR vs fs) n)) n
/-- What the reference's loop reads. -/
structure VqI (w : World) (V C : Value) (a1 a2 : Option Addr) (n : Nat) (vs fs : List Int) (bm : Nat) (sm : Bool) (a3 : Option Addr) (l3 c3 : Nat) (a4 : Option Addr) (l4 c4 : Nat) (fm : Bool) (pm qm : Int) (Nm Dm : Nat) (MR : Rat) (wr : World) : Prop where
  bx : C2 wr w.heap.size V C
  res : C2 wr (w.heap.size + 1) (.int .i64 0) (.int .i64 0)
  mb : B30.C6 wr bm (.bool sm) (.slice a3 l3 c3) (.slice a4 l4 c4) (.bool fm) (.int .i64 pm) (.int .i64 qm)
  mv : B30.WvI wr a3 a4 l3 c3 l4 c4 sm fm pm qm Nm Dm MR
  mn : Nm < 2 ^ (180 + n * 241)
  md : Dm < 2 ^ (180 + n * 241)
  val : IsInts wr a1 n vs
  cha : IsInts wr a2 (n * 2) fs
  bel : Below w.heap.size w wr
theorem VqI.all {w wr wx : World} {V C : Value} {a1 a2 : Option Addr} {n bm : Nat} {vs fs : List Int} {sm : Bool} {a3 : Option Addr} {l3 c3 : Nat} {a4 : Option Addr} {l4 c4 : Nat} {fm : Bool} {pm qm : Int} {Nm Dm : Nat} {MR : Rat} (h : VqI w V C a1 a2 n vs fs bm sm a3 l3 c3 a4 l4 c4 fm pm qm Nm Dm MR wr) (hb : Below wr.heap.size wr wx) : VqI w V C a1 a2 n vs fs bm sm a3 l3 c3 a4 l4 c4 fm pm qm Nm Dm MR wx := ⟨h.bx.all hb, h.res.all hb, h.mb.all hb, h.mv.below hb, h.mn, h.md, h.val.below hb, h.cha.below hb, bthen h.bel hb⟩
set_option maxHeartbeats 1600000 in
theorem specVarianceOf_any (a1 a2 : Option Addr) (n m c1 c2 : Nat) (vs fs : List Int) (w : World) (hn : n ≤ 1048576) (hm : m ≤ 1048576) (h1 : IsInts w a1 n vs) (h2 : IsInts w a2 (m * 2) fs) :
    Calls Try.prog 27 #[.agg #[.slice a1 n c1, .slice a2 m c2]] w fun e w' => e = .returned (lrV vs fs n m (varR vs fs n)) ∧ Below w.heap.size w w' := by
  have hl := h1.1
  have hA : Below w.heap.size w ((w.alloc (.cells #[.slice a1 n c1, .slice a2 m c2] 43)).alloc (.cells #[.int .i64 0, .int .i64 0] 33)) := ((Below.refl _ w).alloc (Nat.le_refl _) _).alloc (by simp) _
  have hc0 : C2 ((w.alloc (.cells #[.slice a1 n c1, .slice a2 m c2] 43)).alloc (.cells #[.int .i64 0, .int .i64 0] 33)) w.heap.size (.slice a1 n c1) (.slice a2 m c2) := (C2.new w _ _ _).all ((Below.refl _ _).alloc (Nat.le_refl _) _)
  have hc1 : C2 ((w.alloc (.cells #[.slice a1 n c1, .slice a2 m c2] 43)).alloc (.cells #[.int .i64 0, .int .i64 0] 33)) (w.heap.size + 1) (.int .i64 0) (.int .i64 0) := by
    have := C2.new (w.alloc (.cells #[.slice a1 n c1, .slice a2 m c2] 43)) 33 (.int .i64 0) (.int .i64 0)
    rw [alloc_size] at this; exact this
  have H0 := Lib.hid (And.intro hc0 (And.intro hc1 (And.intro (h1.below hA) (And.intro (h2.below hA) hA))))
  have HV := Lib.hid (fun w (b : Nat) h0 h1 h2 => l05Is_any b a1 a2 n m c1 c2 vs fs w hn hm h0 h1 h2)
  clear hA hc0 hc1 h1 h2
  obtain ⟨ok, hok⟩ : ∃ ok, lawOk vs fs n m = ok := ⟨_, rfl⟩
  rw [hok] at HV
  have HQ := Lib.hid hok
  have HL := Lib.hid hl
  clear hok hl
  go_enter Try.func27, Try.ntmps27
  go_wp2_with fail
  obtain ⟨wA, hwA⟩ : ∃ w', ((w.alloc (.cells #[.slice a1 n c1, .slice a2 m c2] 43)).alloc (.cells #[.int .i64 0, .int .i64 0] 33)) = w' := ⟨_, rfl⟩
  rw [hwA] at H0 ⊢
  clear hwA
  refine (HV.out _ _ H0.out.1 H0.out.2.2.1 H0.out.2.2.2.1).mono ?_
  rintro e w1 ⟨rfl, hb⟩
  have H1 := Lib.hid (And.intro (H0.out.1.all hb) (And.intro (H0.out.2.1.all hb) (And.intro (H0.out.2.2.1.below hb) (And.intro (H0.out.2.2.2.1.below hb) (bthen H0.out.2.2.2.2 hb)))))
  clear hb H0
  obtain ⟨y0, y1, y2, y3, y4⟩ := H1.out.2.1
  cases ok with
  | false =>
    have HC := Lib.hid (show lrV vs fs n m (varR vs fs n) = zeroF by unfold lrV; rw [HQ.out]; rfl)
    go_wp2_with fail
    refine bodyPost_ret (v := .tuple #[.agg #[.int .i64 0, .int .i64 0], .bool false]) (by simp [results, Try.results27, go_sem, *]) rfl ⟨by rw [HC.out]; rfl, ?_⟩
    exact below_two H1.out.2.2.2.2 (by omega) _ _
  | true =>
    obtain ⟨rfl, hq⟩ := lawQ_of HL.out HQ.out
    have HH := Lib.hid (fun w (b : Nat) h0 h1 h2 => B30.l05Mean_any b a1 a2 m c1 c2 vs fs w hq h0 h1 h2)
    have HW0 := Lib.hid (fun w => B30.wideOf_any (-1) 1 w (by decide))
    have hm64 := hq.n64
    go_wp2_with fail
    refine (HW0.out _).mono ?_
    rintro e w2 ⟨sg, d1, l1, k1, d2, l2, k2, fine, p2, q2, N, D, rfl, hv, ⟨hN, hD⟩, ⟨hn1, hn2⟩, hb⟩
    have H2 := Lib.hid (And.intro (H1.out.1.all hb) (And.intro (H1.out.2.1.all hb) (And.intro (H1.out.2.2.1.below hb) (And.intro (H1.out.2.2.2.1.below hb) (bthen H1.out.2.2.2.2 hb)))))
    clear y0 y1 y2 y3 y4 hb
    go_wp2_with fail
    refine (HH.out _ _ H2.out.1 H2.out.2.2.1 H2.out.2.2.2.1).mono ?_
    rintro e w3 ⟨sg', d1', l1', k1', d2', l2', k2', fine', p2', q2', N', D', rfl, hv', ⟨hN', hD'⟩, ⟨hn1', hn2'⟩, hb⟩
    have H3 := Lib.hid (And.intro (H2.out.1.all hb) (And.intro (H2.out.2.1.all hb) (And.intro (H2.out.2.2.1.below hb) (And.intro (H2.out.2.2.2.1.below hb) (bthen H2.out.2.2.2.2 hb)))))
    have HMU := Lib.hid (B30.wideMul_any sg sg' fine fine' d1 d2 d1' d2' l1 k1 l2 k2 l1' k1' l2' k2' p2 q2 p2' q2' N D N' D' 60 (60 + m * 241) _ _ w3 (hv.below hb) hv' hN hD hN' hD' (by omega) (by omega))
    clear hv hN hD hn1 hn2 hv' hN' hD' hn1' hn2' hb
    go_wp2_with fail
    refine HMU.out.mono ?_
    rintro e w4 ⟨sm, a3, l3, c3, a4, l4, c4, fm, pm, qm, Nm, Dm, rfl, hv, ⟨hN, hD⟩, ⟨hn1, hn2⟩, hb⟩
    have hb4 : Below w4.heap.size w4 (w4.alloc (.cells #[.bool sm, .slice a3 l3 c3, .slice a4 l4 c4, .bool fm, .int .i64 pm, .int .i64 qm] 97)) := (Below.refl _ _).alloc (Nat.le_refl _) _
    have hbb := bthen hb hb4
    obtain ⟨MR, hMR⟩ : ∃ r, mkRat (-1) (Int.toNat 1) * B30.sumW (B30.mnR vs fs) m = r := ⟨_, rfl⟩
    rw [hMR] at hv
    have H4 := Lib.hid (show VqI w (.slice a1 m c1) (.slice a2 m c2) a1 a2 m vs fs w4.heap.size sm a3 l3 c3 a4 l4 c4 fm pm qm Nm Dm MR (w4.alloc (.cells #[.bool sm, .slice a3 l3 c3, .slice a4 l4 c4, .bool fm, .int .i64 pm, .int .i64 qm] 97)) from
      ⟨H3.out.1.all hbb, H3.out.2.1.all hbb, B30.C6.new w4 _ _ _ _ _ _ _, hv.below hb4, by rw [show 180 + m * 241 = 60 + (60 + m * 241) + 60 by omega]; exact hN, by rw [show 180 + m * 241 = 60 + (60 + m * 241) + 60 by omega]; exact hD, H3.out.2.2.1.below hbb, H3.out.2.2.2.1.below hbb, bthen H3.out.2.2.2.2 hbb⟩)
    have HMR := Lib.hid hMR
    clear hv hN hD hn1 hn2 hb hb4 hbb hMR H3 H2 H1 HMU
    go_wp2_with fail
    obtain ⟨bm, hbm⟩ : ∃ b, w4.heap.size = b := ⟨_, rfl⟩
    obtain ⟨wA, hwA⟩ : ∃ w', (w4.alloc (.cells #[.bool sm, .slice a3 l3 c3, .slice a4 l4 c4, .bool fm, .int .i64 pm, .int .i64 qm] 97)) = w' := ⟨_, rfl⟩
    have hszA : wA.heap.size = bm + 1 := by rw [← hwA, ← hbm, alloc_size]
    rw [hbm, hwA] at H4
    rw [hwA, hbm]
    clear hwA hbm
    obtain ⟨BD, hBD1, hBD2⟩ : ∃ b, 31630 ≤ b ∧ b ≤ 40000 := ⟨31630, by omega, by omega⟩
    have HM := Lib.hid (show B30.WlI wA 0 (.slice (some ⟨wA.heap.size, 0, none⟩) 0 0) (vrR vs fs MR) BD [] (wA.alloc (.cells #[] 97)) from
      ⟨World.ownsRow_lit wA #[] 0 (Nat.le_refl _) (by decide) rfl, fun j hj => absurd hj (Nat.not_lt_zero _), (Below.refl _ wA).alloc (Nat.le_refl _) _⟩)
    rw [hszA] at HM
    obtain ⟨wB, hwB⟩ : ∃ w', wA.alloc (.cells #[] 97) = w' := ⟨_, rfl⟩
    rw [hwB] at HM ⊢
    clear hwB hszA
    go_loopw [6, 5] (fun i V wr => ∃ (k : Nat) (ga : Option Addr) (ca : Nat) (xs : List Value), k ≤ m ∧ i = .int .i64 (k : Nat) ∧ V = .slice ga k ca ∧ Hid (B30.WlI wA k (.slice ga k ca) (vrR vs fs MR) BD xs wr)) (fun i _ _ => m - (intOf i).toNat)
    case atStart => exact ⟨0, _, _, [], Nat.zero_le _, rfl, rfl, HM⟩
    case round =>
      clear HM
      obtain ⟨k, ga, ca, xs, hk, rfl, rfl, HM⟩ := hrel
      have HI := Lib.hid (H4.out.all HM.out.bel)
      by_cases hlt : k < m
      · obtain ⟨x0, x1, x2, x3, x4⟩ := HI.out.bx
        obtain ⟨g, off, rfl, cv⟩ := HI.out.val.at hlt
        obtain ⟨x, hx⟩ : ∃ x, vs.getD k 0 = x := ⟨_, rfl⟩
        rw [hx] at cv
        have HX := Lib.hid hx
        have hvx : vF x 1 = true := by
          have := hq.rng k hlt
          rw [hx] at this
          exact B30.vF_int this.1 this.2
        have HW1 := Lib.hid (fun w => B30.wideOf_any x 1 w hvx)
        have HMN := Lib.hid (show B30.WvI wr a3 a4 l3 c3 l4 c4 sm fm pm qm Nm Dm MR ∧ (Nm < 2 ^ (180 + m * 241) ∧ Dm < 2 ^ (180 + m * 241)) from ⟨HI.out.mv, HI.out.mn, HI.out.md⟩)
        have HSA : Hid (∀ w', Below wr.heap.size wr w' → w'.cell? ⟨w.heap.size, 0, none⟩ = some (.slice (some ⟨g, off, none⟩) m c1) ∧ w'.cell? ⟨g, off + k, none⟩ = some (.int .i64 x) ∧ w'.cell? ⟨bm, 0, none⟩ = some (.bool sm) ∧ w'.cell? ⟨bm, 1, none⟩ = some (.slice a3 l3 c3) ∧ w'.cell? ⟨bm, 2, none⟩ = some (.slice a4 l4 c4) ∧ w'.cell? ⟨bm, 3, none⟩ = some (.bool fm) ∧ w'.cell? ⟨bm, 4, none⟩ = some (.int .i64 pm) ∧ w'.cell? ⟨bm, 5, none⟩ = some (.int .i64 qm)) := Lib.hid (fun w' hb => ⟨(HI.out.bx.all hb).c0, (hb.cell (p := ⟨g, off + k, none⟩) (World.block_lt_of_cell? wr _ cv)).trans cv, (HI.out.mb.all hb).c0, (HI.out.mb.all hb).c1, (HI.out.mb.all hb).c2, (HI.out.mb.all hb).c3, (HI.out.mb.all hb).c4, (HI.out.mb.all hb).c5⟩)
        clear hx hvx
        have hki : (k : Int) < (m : Int) := by omega
        have hk0 : (0 : Int) ≤ (k : Int) := by omega
        have hmb : 180 + m * 241 ≤ 15604 := by omega
        go_upto_region 1 with fail
        go_cut [7] (fun v7 wc => ∃ (b7 : Nat) (e1 : Bool) (e2 : Option Addr) (e3 e4 : Nat) (e5 : Option Addr) (e6 e7 : Nat) (e8 : Bool) (e9 e10 : Int), v7 = .pointer (some ⟨b7, 0, none⟩) ∧ Hid (B30.C6 wc b7 (.bool e1) (.slice e2 e3 e4) (.slice e5 e6 e7) (.bool e8) (.int .i64 e9) (.int .i64 e10) ∧ B30.WvI wc e2 e5 e3 e4 e6 e7 e1 e8 e9 e10 (mkRat x (Int.toNat 1) + MR).num.natAbs (mkRat x (Int.toNat 1) + MR).den (mkRat x (Int.toNat 1) + MR) ∧ ((mkRat x (Int.toNat 1) + MR).num.natAbs < 2 ^ (60 + (180 + m * 241) + 61) ∧ (mkRat x (Int.toNat 1) + MR).den < 2 ^ (60 + (180 + m * 241) + 61)) ∧ Below wr.heap.size wr wc ∧ wr.heap.size ≤ b7))
        case first =>
          clear x0 x1 x2 x3 x4 cv
          have HB0 := Lib.hid ((Below.refl wr.heap.size wr).drew)
          have hS : wr.drew.cell? ⟨w.heap.size, 0, none⟩ = some (.slice (some ⟨g, off, none⟩) m c1) ∧ wr.drew.cell? ⟨g, off + k, none⟩ = some (.int .i64 x) ∧ wr.drew.cell? ⟨bm, 0, none⟩ = some (.bool sm) ∧ wr.drew.cell? ⟨bm, 1, none⟩ = some (.slice a3 l3 c3) ∧ wr.drew.cell? ⟨bm, 2, none⟩ = some (.slice a4 l4 c4) ∧ wr.drew.cell? ⟨bm, 3, none⟩ = some (.bool fm) ∧ wr.drew.cell? ⟨bm, 4, none⟩ = some (.int .i64 pm) ∧ wr.drew.cell? ⟨bm, 5, none⟩ = some (.int .i64 qm) := HSA.out _ HB0.out
          refine wp_region_any (by kernel_rfl) (any_of_K (k := 11) (S := fun w' => w'.cell? ⟨w.heap.size, 0, none⟩ = some (.slice (some ⟨g, off, none⟩) m c1) ∧ w'.cell? ⟨g, off + k, none⟩ = some (.int .i64 x) ∧ w'.cell? ⟨bm, 0, none⟩ = some (.bool sm) ∧ w'.cell? ⟨bm, 1, none⟩ = some (.slice a3 l3 c3) ∧ w'.cell? ⟨bm, 2, none⟩ = some (.slice a4 l4 c4) ∧ w'.cell? ⟨bm, 3, none⟩ = some (.bool fm) ∧ w'.cell? ⟨bm, 4, none⟩ = some (.int .i64 pm) ∧ w'.cell? ⟨bm, 5, none⟩ = some (.int .i64 qm)) (T := fun _ => True) _ _ _ _ ?_)
          change anyK _ _ _ _ _ _ _ _ _ _ (World.drew wr)
          obtain ⟨wD, hwD⟩ : ∃ w', wr.drew = w' := ⟨_, rfl⟩
          rw [hwD] at HB0 hS ⊢
          clear hwD
          refine anyT_take (i := 0) (n := 11) (v := .pointer (some ⟨w.heap.size, 0, none⟩)) rfl (by decide) (by kernel_rfl) (by kernel_rfl) (by kernel_rfl) (fun _ _ _ h => h) (Or.inl ⟨by kernel_rfl, fun w' hw => by go_simp⟩) hS trivial ?_
          refine anyK_take (i := 1) (n := 10) (v := .slice (some ⟨g, off, none⟩) m c1) rfl rfl (by kernel_rfl) (by kernel_rfl) (by kernel_rfl) (by kernel_rfl) (by kernel_rfl) (fun _ _ _ h => h) (Or.inl ⟨by kernel_rfl, fun w' hw => by (obtain ⟨z0, z1, z2, z3, z4, z5, z6, z7⟩ := hw; go_simp)⟩) hS trivial ?_
          refine anyT_take (i := 2) (n := 9) (v := .int .i64 (k : Nat)) rfl (by decide) (by kernel_rfl) (by kernel_rfl) (by kernel_rfl) (fun _ _ _ h => h) (Or.inl ⟨by kernel_rfl, fun w' hw => by go_simp⟩) hS trivial ?_
          refine anyT_take (i := 3) (n := 8) (v := .pointer (some ⟨g, off + k, none⟩)) rfl (by decide) (by kernel_rfl) (by kernel_rfl) (by kernel_rfl) (fun _ _ _ h => h) (Or.inl ⟨by kernel_rfl, fun w' hw => by go_simp⟩) hS trivial ?_
          refine anyK_take (i := 4) (n := 7) (v := .int .i64 x) rfl rfl (by kernel_rfl) (by kernel_rfl) (by kernel_rfl) (by kernel_rfl) (by kernel_rfl) (fun _ _ _ h => h) (Or.inl ⟨by kernel_rfl, fun w' hw => by (obtain ⟨z0, z1, z2, z3, z4, z5, z6, z7⟩ := hw; go_simp)⟩) hS trivial ?_
          refine anyT_take (i := 5) (n := 6) (v := .agg #[.int .i64 x, .int .i64 1]) rfl (by decide) (by kernel_rfl) (by kernel_rfl) (by kernel_rfl) (fun _ _ _ h => h) (Or.inl ⟨by kernel_rfl, fun w' hw => by go_simp⟩) hS trivial ?_
          refine anyK_take (i := 7) (n := 5) (v := .agg #[.bool sm, .slice a3 l3 c3, .slice a4 l4 c4, .bool fm, .int .i64 pm, .int .i64 qm]) rfl rfl (by kernel_rfl) (by kernel_rfl) (by kernel_rfl) (by kernel_rfl) (by kernel_rfl) (fun _ _ _ h => h) (Or.inl ⟨by kernel_rfl, fun w' hw => by (obtain ⟨z0, z1, z2, z3, z4, z5, z6, z7⟩ := hw; go_simp)⟩) hS trivial ?_
          refine anyK_all (n := 4) (rs := [6, 10]) (by kernel_rfl) (by simp) (fun i hi => ?_)
          simp only [List.mem_cons, List.not_mem_nil, or_false] at hi
          rcases hi with rfl | rfl
          · refine wpOp_step rfl (fun K' hK => ?_)
            go_simp
            refine (HW1.out _).mono ?_
            rintro e v1 ⟨e1_1, e1_2, e1_3, e1_4, e1_5, e1_6, e1_7, e1_8, e1_9, e1_10, e1_11, e1_12, rfl, hv, hnd, _, hb⟩
            have HB1 := Lib.hid (bthen HB0.out hb)
            have hS1 := HSA.out _ HB1.out
            have HV1 := Lib.hid (And.intro hv hnd)
            refine hK _ _ ⟨fun _ _ => hS1, trivial, ?_⟩
            clear hK hv hnd hb
            refine anyK_all (n := 3) (rs := [8, 10]) (by kernel_rfl) (by simp) (fun i hi => ?_)
            simp only [List.mem_cons, List.not_mem_nil, or_false] at hi
            rcases hi with rfl | rfl
            · refine wpOp_step rfl (fun K' hK => ?_)
              go_simp
              refine (B30.wideAdd_any e1_1 sm e1_8 fm e1_2 e1_5 a3 a4 e1_3 e1_4 e1_6 e1_7 l3 c3 l4 c4 e1_9 e1_10 pm qm e1_11 e1_12 Nm Dm 60 (180 + m * 241) _ _ _ HV1.out.1 (HMN.out.1.below HB1.out) HV1.out.2.1 HV1.out.2.2 HMN.out.2.1 HMN.out.2.2 (by omega) (by omega)).mono ?_
              rintro e v2 ⟨e2_1, e2_2, e2_3, e2_4, e2_5, e2_6, e2_7, e2_8, e2_9, e2_10, e2_11, e2_12, rfl, hv, hnd, hna, hb⟩
              have HB2 := Lib.hid (bthen HB1.out hb)
              have hS2 := HSA.out _ HB2.out
              have HW2 := Lib.hid (And.intro hv hnd)
              have HNA2 := Lib.hid hna
              refine hK _ _ ⟨fun _ _ => hS2, trivial, ?_⟩
              clear hK hv hnd hna hb
              refine anyK_all (n := 2) (rs := [9, 10]) (by kernel_rfl) (by simp) (fun i hi => ?_)
              simp only [List.mem_cons, List.not_mem_nil, or_false] at hi
              rcases hi with rfl | rfl
              · refine wpOp_step rfl (fun K' hK => ?_)
                go_simp
                have hbt := B30.low_bits HW2.out.1 HW2.out.2
                refine (B30.lowest_any e2_1 e2_8 e2_2 e2_5 e2_3 e2_4 e2_6 e2_7 e2_9 e2_10 e2_11 e2_12 0 _ _ HW2.out.1 (B30.big_lt HW2.out.1.n HW2.out.2.1 (by omega)) (B30.big_lt HW2.out.1.d HW2.out.2.2 (by omega)) (HNA2.out.1.le (Nat.zero_le _)) (HNA2.out.2.le (Nat.zero_le _)) (Nat.zero_le _)).mono ?_
                rintro e v3 ⟨e3_1, e3_2, e3_3, e3_4, e3_5, e3_6, e3_7, e3_8, e3_9, e3_10, rfl, hv, hna, hb⟩
                have HB3 := Lib.hid (bthen HB2.out hb)
                have hS3 := HSA.out _ HB3.out
                have HY3 := Lib.hid hv
                have HT3 := Lib.hid hbt
                refine hK _ _ ⟨fun _ _ => hS3, trivial, ?_⟩
                clear hK hv hna hb hbt
                refine anyK_all (n := 1) (rs := [10]) (by kernel_rfl) (by simp) (fun i hi => ?_)
                simp only [List.mem_cons, List.not_mem_nil, or_false] at hi
                obtain rfl := hi
                refine wpOp_step rfl (fun K' hK => ?_)
                go_simp
                have hb : Below v3.heap.size v3 (v3.alloc (.cells #[.bool false, .slice none 0 0, .slice none 0 0, .bool false, .int .i64 0, .int .i64 0] 97)) := (Below.refl _ _).alloc (Nat.le_refl _) _
                have HB4 := Lib.hid (bthen HB3.out hb)
                have hS4 := HSA.out _ HB4.out
                have HY4 := Lib.hid (HY3.out.below hb)
                have HX4 := Lib.hid (And.intro (B30.C6.new v3 97 (.bool false) (.slice none 0 0) (.slice none 0 0) (.bool false) (.int .i64 0) (.int .i64 0)) HB3.out.size)
                have HBL4 : Hid (v3.heap.size + 1 ≤ (v3.alloc (.cells #[.bool false, .slice none 0 0, .slice none 0 0, .bool false, .int .i64 0, .int .i64 0] 97)).heap.size) := Lib.hid (by rw [alloc_size]; omega)
                have HO4 : Hid (B30.OffB e3_2 e3_3 v3.heap.size ∧ B30.OffB e3_5 e3_6 v3.heap.size) := Lib.hid ⟨B30.offB_size HY3.out.n (Nat.le_refl _), B30.offB_size HY3.out.d (Nat.le_refl _)⟩
                refine hK _ _ ⟨fun _ _ => hS4, trivial, ?_⟩
                clear hK hb
                obtain ⟨v4, hw⟩ : ∃ w', v3.alloc (.cells #[.bool false, .slice none 0 0, .slice none 0 0, .bool false, .int .i64 0, .int .i64 0] 97) = w' := ⟨_, rfl⟩
                obtain ⟨b4, hbb⟩ : ∃ b, v3.heap.size = b := ⟨_, rfl⟩
                rw [hw] at HB4 hS4 HBL4 HY4
                rw [hbb] at HBL4 HO4
                rw [hw, hbb] at HX4
                rw [hw, hbb]
                clear hw hbb
                obtain ⟨y0, y1, y2, y3, y4, y5, y6, y7, y8, y9, y10, y11, y12⟩ := HX4.out.1
                refine anyK_all (n := 0) (rs := [11]) (by kernel_rfl) (by simp) (fun i hi => ?_)
                simp only [List.mem_cons, List.not_mem_nil, or_false] at hi
                obtain rfl := hi
                refine wpOp_step rfl (fun K' hK => ?_)
                go_simp
                refine hK _ _ ⟨fun h => absurd rfl h, trivial, ?_⟩
                clear hK
                refine ⟨by kernel_rfl, ?_⟩
                go_wp2_with fail
                go_meet
                exact ⟨_, e3_1, e3_2, e3_3, e3_4, e3_5, e3_6, e3_7, e3_8, e3_9, e3_10, rfl, Lib.hid ⟨HX4.out.1.put _ _ _ _ _ _, HY4.out.putO HO4.out.1 HO4.out.2 _ _ _ _ _ _, HT3.out, B30.put6_below HB4.out HX4.out.2 _ _ _ _ _ _, HX4.out.2⟩⟩
              · refine wpOp_step rfl (fun K' hK => ?_)
                go_simp
                have hb : Below v2.heap.size v2 (v2.alloc (.cells #[.bool false, .slice none 0 0, .slice none 0 0, .bool false, .int .i64 0, .int .i64 0] 97)) := (Below.refl _ _).alloc (Nat.le_refl _) _
                have HB5 := Lib.hid (bthen HB2.out hb)
                have hS5 := HSA.out _ HB5.out
                have HW5 := Lib.hid (And.intro (HW2.out.1.below hb) HW2.out.2)
                have HX5 := Lib.hid (And.intro (B30.C6.new v2 97 (.bool false) (.slice none 0 0) (.slice none 0 0) (.bool false) (.int .i64 0) (.int .i64 0)) HB2.out.size)
                have HBL5 : Hid (v2.heap.size + 1 ≤ (v2.alloc (.cells #[.bool false, .slice none 0 0, .slice none 0 0, .bool false, .int .i64 0, .int .i64 0] 97)).heap.size) := Lib.hid (by rw [alloc_size]; omega)
                have HO5 : Hid (B30.OffB e2_2 e2_3 v2.heap.size ∧ B30.OffB e2_5 e2_6 v2.heap.size) := Lib.hid ⟨B30.offB_size HW2.out.1.n (Nat.le_refl _), B30.offB_size HW2.out.1.d (Nat.le_refl _)⟩
                refine hK _ _ ⟨fun _ _ => hS5, trivial, ?_⟩
                clear hK hb
                obtain ⟨v5, hw⟩ : ∃ w', v2.alloc (.cells #[.bool false, .slice none 0 0, .slice none 0 0, .bool false, .int .i64 0, .int .i64 0] 97) = w' := ⟨_, rfl⟩
                obtain ⟨b5, hbb⟩ : ∃ b, v2.heap.size = b := ⟨_, rfl⟩
                rw [hw] at HB5 hS5 HBL5 HW5
                rw [hbb] at HBL5 HO5
                rw [hw, hbb] at HX5
                rw [hw, hbb]
                clear hw hbb
                refine anyK_all (n := 1) (rs := [9]) (by kernel_rfl) (by simp) (fun i hi => ?_)
                simp only [List.mem_cons, List.not_mem_nil, or_false] at hi
                obtain rfl := hi
                refine wpOp_step rfl (fun K' hK => ?_)
                go_simp
                have hbt := B30.low_bits HW5.out.1 HW5.out.2
                refine (B30.lowest_off e2_1 e2_8 e2_2 e2_5 e2_3 e2_4 e2_6 e2_7 e2_9 e2_10 e2_11 e2_12 b5 _ _ HW5.out.1 (B30.big_lt HW5.out.1.n HW5.out.2.1 (by omega)) (B30.big_lt HW5.out.1.d HW5.out.2.2 (by omega)) HO5.out.1 HO5.out.2 HX5.out.1.lt).mono ?_
                rintro e v6 ⟨e6_1, e6_2, e6_3, e6_4, e6_5, e6_6, e6_7, e6_8, e6_9, e6_10, rfl, hv, hna, hb⟩
                have HB6 := Lib.hid (bthen HB5.out hb)
                have hS6 := HSA.out _ HB6.out
                have HX6 := Lib.hid (And.intro (HX5.out.1.all hb) HX5.out.2)
                have HY6 := Lib.hid hv
                have HT6 := Lib.hid hbt
                have HO6 := Lib.hid hna
                refine hK _ _ ⟨fun _ _ => hS6, trivial, ?_⟩
                clear hK hv hna hb hbt
                obtain ⟨y0, y1, y2, y3, y4, y5, y6, y7, y8, y9, y10, y11, y12⟩ := HX6.out.1
                refine anyK_all (n := 0) (rs := [11]) (by kernel_rfl) (by simp) (fun i hi => ?_)
                simp only [List.mem_cons, List.not_mem_nil, or_false] at hi
                obtain rfl := hi
                refine wpOp_step rfl (fun K' hK => ?_)
                go_simp
                refine hK _ _ ⟨fun h => absurd rfl h, trivial, ?_⟩
                clear hK
                refine ⟨by kernel_rfl, ?_⟩
                go_wp2_with fail
                go_meet
                exact ⟨_, e6_1, e6_2, e6_3, e6_4, e6_5, e6_6, e6_7, e6_8, e6_9, e6_10, rfl, Lib.hid ⟨HX6.out.1.put _ _ _ _ _ _, HY6.out.putO HO6.out.1 HO6.out.2 _ _ _ _ _ _, HT6.out, B30.put6_below HB6.out HX6.out.2 _ _ _ _ _ _, HX6.out.2⟩⟩
            · refine wpOp_step rfl (fun K' hK => ?_)
              go_simp
              have hb : Below v1.heap.size v1 (v1.alloc (.cells #[.bool false, .slice none 0 0, .slice none 0 0, .bool false, .int .i64 0, .int .i64 0] 97)) := (Below.refl _ _).alloc (Nat.le_refl _) _
              have HB7 := Lib.hid (bthen HB1.out hb)
              have hS7 := HSA.out _ HB7.out
              have HV7 := Lib.hid (And.intro (HV1.out.1.below hb) HV1.out.2)
              have HX7 := Lib.hid (And.intro (B30.C6.new v1 97 (.bool false) (.slice none 0 0) (.slice none 0 0) (.bool false) (.int .i64 0) (.int .i64 0)) HB1.out.size)
              have HBL7 : Hid (v1.heap.size + 1 ≤ (v1.alloc (.cells #[.bool false, .slice none 0 0, .slice none 0 0, .bool false, .int .i64 0, .int .i64 0] 97)).heap.size) := Lib.hid (by rw [alloc_size]; omega)
              refine hK _ _ ⟨fun _ _ => hS7, trivial, ?_⟩
              clear hK hb
              obtain ⟨v7, hw⟩ : ∃ w', v1.alloc (.cells #[.bool false, .slice none 0 0, .slice none 0 0, .bool false, .int .i64 0, .int .i64 0] 97) = w' := ⟨_, rfl⟩
              obtain ⟨b7, hbb⟩ : ∃ b, v1.heap.size = b := ⟨_, rfl⟩
              rw [hw] at HB7 hS7 HBL7 HV7
              rw [hbb] at HBL7
              rw [hw, hbb] at HX7
              rw [hw, hbb]
              clear hw hbb
              refine anyK_all (n := 2) (rs := [8]) (by kernel_rfl) (by simp) (fun i hi => ?_)
              simp only [List.mem_cons, List.not_mem_nil, or_false] at hi
              obtain rfl := hi
              refine wpOp_step rfl (fun K' hK => ?_)
              go_simp
              refine (B30.wideAdd_any e1_1 sm e1_8 fm e1_2 e1_5 a3 a4 e1_3 e1_4 e1_6 e1_7 l3 c3 l4 c4 e1_9 e1_10 pm qm e1_11 e1_12 Nm Dm 60 (180 + m * 241) _ _ _ HV7.out.1 (HMN.out.1.below HB7.out) HV7.out.2.1 HV7.out.2.2 HMN.out.2.1 HMN.out.2.2 (by omega) (by omega)).mono ?_
              rintro e v8 ⟨e8_1, e8_2, e8_3, e8_4, e8_5, e8_6, e8_7, e8_8, e8_9, e8_10, e8_11, e8_12, rfl, hv, hnd, hna, hb⟩
              have HB8 := Lib.hid (bthen HB7.out hb)
              have hS8 := HSA.out _ HB8.out
              have HX8 := Lib.hid (And.intro (HX7.out.1.all hb) HX7.out.2)
              have HW8 := Lib.hid (And.intro hv hnd)
              have HNA8 := Lib.hid hna
              have HO8 : Hid (B30.OffB e8_2 e8_3 b7 ∧ B30.OffB e8_5 e8_6 b7) := Lib.hid ⟨B30.offB_new (hna.1.le HX7.out.1.lt), B30.offB_new (hna.2.le HX7.out.1.lt)⟩
              refine hK _ _ ⟨fun _ _ => hS8, trivial, ?_⟩
              clear hK hv hnd hna hb
              refine anyK_all (n := 1) (rs := [9]) (by kernel_rfl) (by simp) (fun i hi => ?_)
              simp only [List.mem_cons, List.not_mem_nil, or_false] at hi
              obtain rfl := hi
              refine wpOp_step rfl (fun K' hK => ?_)
              go_simp
              have hbt := B30.low_bits HW8.out.1 HW8.out.2
              refine (B30.lowest_off e8_1 e8_8 e8_2 e8_5 e8_3 e8_4 e8_6 e8_7 e8_9 e8_10 e8_11 e8_12 b7 _ _ HW8.out.1 (B30.big_lt HW8.out.1.n HW8.out.2.1 (by omega)) (B30.big_lt HW8.out.1.d HW8.out.2.2 (by omega)) HO8.out.1 HO8.out.2 HX8.out.1.lt).mono ?_
              rintro e v9 ⟨e9_1, e9_2, e9_3, e9_4, e9_5, e9_6, e9_7, e9_8, e9_9, e9_10, rfl, hv, hna, hb⟩
              have HB9 := Lib.hid (bthen HB8.out hb)
              have hS9 := HSA.out _ HB9.out
              have HX9 := Lib.hid (And.intro (HX8.out.1.all hb) HX8.out.2)
              have HY9 := Lib.hid hv
              have HT9 := Lib.hid hbt
              have HO9 := Lib.hid hna
              refine hK _ _ ⟨fun _ _ => hS9, trivial, ?_⟩
              clear hK hv hna hb hbt
              obtain ⟨y0, y1, y2, y3, y4, y5, y6, y7, y8, y9, y10, y11, y12⟩ := HX9.out.1
              refine anyK_all (n := 0) (rs := [11]) (by kernel_rfl) (by simp) (fun i hi => ?_)
              simp only [List.mem_cons, List.not_mem_nil, or_false] at hi
              obtain rfl := hi
              refine wpOp_step rfl (fun K' hK => ?_)
              go_simp
              refine hK _ _ ⟨fun h => absurd rfl h, trivial, ?_⟩
              clear hK
              refine ⟨by kernel_rfl, ?_⟩
              go_wp2_with fail
              go_meet
              exact ⟨_, e9_1, e9_2, e9_3, e9_4, e9_5, e9_6, e9_7, e9_8, e9_9, e9_10, rfl, Lib.hid ⟨HX9.out.1.put _ _ _ _ _ _, HY9.out.putO HO9.out.1 HO9.out.2 _ _ _ _ _ _, HT9.out, B30.put6_below HB9.out HX9.out.2 _ _ _ _ _ _, HX9.out.2⟩⟩
          · refine wpOp_step rfl (fun K' hK => ?_)
            go_simp
            have hb : Below wD.heap.size wD (wD.alloc (.cells #[.bool false, .slice none 0 0, .slice none 0 0, .bool false, .int .i64 0, .int .i64 0] 97)) := (Below.refl _ _).alloc (Nat.le_refl _) _
            have HB10 := Lib.hid (bthen HB0.out hb)
            have hS10 := HSA.out _ HB10.out
            have HX10 := Lib.hid (And.intro (B30.C6.new wD 97 (.bool false) (.slice none 0 0) (.slice none 0 0) (.bool false) (.int .i64 0) (.int .i64 0)) HB0.out.size)
            have HBL10 : Hid (wD.heap.size + 1 ≤ (wD.alloc (.cells #[.bool false, .slice none 0 0, .slice none 0 0, .bool false, .int .i64 0, .int .i64 0] 97)).heap.size) := Lib.hid (by rw [alloc_size]; omega)
            refine hK _ _ ⟨fun _ _ => hS10, trivial, ?_⟩
            clear hK hb
            obtain ⟨v10, hw⟩ : ∃ w', wD.alloc (.cells #[.bool false, .slice none 0 0, .slice none 0 0, .bool false, .int .i64 0, .int .i64 0] 97) = w' := ⟨_, rfl⟩
            obtain ⟨b10, hbb⟩ : ∃ b, wD.heap.size = b := ⟨_, rfl⟩
            rw [hw] at HB10 hS10 HBL10
            rw [hbb] at HBL10
            rw [hw, hbb] at HX10
            rw [hw, hbb]
            clear hw hbb
            refine anyK_all (n := 3) (rs := [6]) (by kernel_rfl) (by simp) (fun i hi => ?_)
            simp only [List.mem_cons, List.not_mem_nil, or_false] at hi
            obtain rfl := hi
            refine wpOp_step rfl (fun K' hK => ?_)
            go_simp
            refine (HW1.out _).mono ?_
            rintro e v11 ⟨e11_1, e11_2, e11_3, e11_4, e11_5, e11_6, e11_7, e11_8, e11_9, e11_10, e11_11, e11_12, rfl, hv, hnd, _, hb⟩
            have HB11 := Lib.hid (bthen HB10.out hb)
            have hS11 := HSA.out _ HB11.out
            have HX11 := Lib.hid (And.intro (HX10.out.1.all hb) HX10.out.2)
            have HV11 := Lib.hid (And.intro hv hnd)
            refine hK _ _ ⟨fun _ _ => hS11, trivial, ?_⟩
            clear hK hv hnd hb
            refine anyK_all (n := 2) (rs := [8]) (by kernel_rfl) (by simp) (fun i hi => ?_)
            simp only [List.mem_cons, List.not_mem_nil, or_false] at hi
            obtain rfl := hi
            refine wpOp_step rfl (fun K' hK => ?_)
            go_simp
            refine (B30.wideAdd_any e11_1 sm e11_8 fm e11_2 e11_5 a3 a4 e11_3 e11_4 e11_6 e11_7 l3 c3 l4 c4 e11_9 e11_10 pm qm e11_11 e11_12 Nm Dm 60 (180 + m * 241) _ _ _ HV11.out.1 (HMN.out.1.below HB11.out) HV11.out.2.1 HV11.out.2.2 HMN.out.2.1 HMN.out.2.2 (by omega) (by omega)).mono ?_
            rintro e v12 ⟨e12_1, e12_2, e12_3, e12_4, e12_5, e12_6, e12_7, e12_8, e12_9, e12_10, e12_11, e12_12, rfl, hv, hnd, hna, hb⟩
            have HB12 := Lib.hid (bthen HB11.out hb)
            have hS12 := HSA.out _ HB12.out
            have HX12 := Lib.hid (And.intro (HX11.out.1.all hb) HX11.out.2)
            have HW12 := Lib.hid (And.intro hv hnd)
            have HNA12 := Lib.hid hna
            have HO12 : Hid (B30.OffB e12_2 e12_3 b10 ∧ B30.OffB e12_5 e12_6 b10) := Lib.hid ⟨B30.offB_new (hna.1.le HX11.out.1.lt), B30.offB_new (hna.2.le HX11.out.1.lt)⟩
            refine hK _ _ ⟨fun _ _ => hS12, trivial, ?_⟩
            clear hK hv hnd hna hb
            refine anyK_all (n := 1) (rs := [9]) (by kernel_rfl) (by simp) (fun i hi => ?_)
            simp only [List.mem_cons, List.not_mem_nil, or_false] at hi
            obtain rfl := hi
            refine wpOp_step rfl (fun K' hK => ?_)
            go_simp
            have hbt := B30.low_bits HW12.out.1 HW12.out.2
            refine (B30.lowest_off e12_1 e12_8 e12_2 e12_5 e12_3 e12_4 e12_6 e12_7 e12_9 e12_10 e12_11 e12_12 b10 _ _ HW12.out.1 (B30.big_lt HW12.out.1.n HW12.out.2.1 (by omega)) (B30.big_lt HW12.out.1.d HW12.out.2.2 (by omega)) HO12.out.1 HO12.out.2 HX12.out.1.lt).mono ?_
            rintro e v13 ⟨e13_1, e13_2, e13_3, e13_4, e13_5, e13_6, e13_7, e13_8, e13_9, e13_10, rfl, hv, hna, hb⟩
            have HB13 := Lib.hid (bthen HB12.out hb)
            have hS13 := HSA.out _ HB13.out
            have HX13 := Lib.hid (And.intro (HX12.out.1.all hb) HX12.out.2)
            have HY13 := Lib.hid hv
            have HT13 := Lib.hid hbt
            have HO13 := Lib.hid hna
            refine hK _ _ ⟨fun _ _ => hS13, trivial, ?_⟩
            clear hK hv hna hb hbt
            obtain ⟨y0, y1, y2, y3, y4, y5, y6, y7, y8, y9, y10, y11, y12⟩ := HX13.out.1
            refine anyK_all (n := 0) (rs := [11]) (by kernel_rfl) (by simp) (fun i hi => ?_)
            simp only [List.mem_cons, List.not_mem_nil, or_false] at hi
            obtain rfl := hi
            refine wpOp_step rfl (fun K' hK => ?_)
            go_simp
            refine hK _ _ ⟨fun h => absurd rfl h, trivial, ?_⟩
            clear hK
            refine ⟨by kernel_rfl, ?_⟩
            go_wp2_with fail
            go_meet
            exact ⟨_, e13_1, e13_2, e13_3, e13_4, e13_5, e13_6, e13_7, e13_8, e13_9, e13_10, rfl, Lib.hid ⟨HX13.out.1.put _ _ _ _ _ _, HY13.out.putO HO13.out.1 HO13.out.2 _ _ _ _ _ _, HT13.out, B30.put6_below HB13.out HX13.out.2 _ _ _ _ _ _, HX13.out.2⟩⟩
        case rest =>
          obtain ⟨b7, e1, e2, e3, e4, e5, e6, e7, e8, e9, e10, rfl, HC⟩ := hcut
          have HI2 := Lib.hid (HI.out.all HC.out.2.2.2.1)
          have HM2 := Lib.hid (HM.out.all HC.out.2.2.2.1)
          have HC7 := Lib.hid HC.out.1
          have HV7 := Lib.hid (And.intro HC.out.2.1 HC.out.2.2.1)
          have HW2 := Lib.hid (fun w => B30.wideOf_any (frN fs k) (frD fs k) w (hq.ok k hlt))
          have HO7 : Hid ((Value.slice ga k ca).ownBlock ≠ some b7) := Lib.hid (fun e => by have := (HM.out.own.lt b7 e).2; have h2 := HC.out.2.2.2.2; omega)
          have HO8 : Hid ((Value.slice ga k ca).ownBlock ≠ some w.heap.size) := Lib.hid (fun e => by have := (HM.out.own.lt _ e).1; have h2 := H4.out.bx.lt; omega)
          clear HSA HC HI HW1 HMN x0 x1 x2 x3 x4 cv
          obtain ⟨x0, x1, x2, x3, x4⟩ := HI2.out.bx
          obtain ⟨g2, off2, rfl, d1, d2⟩ := fr_at HI2.out.cha hlt
          have HSB : Hid (∀ w', Below wc.heap.size wc w' → w'.cell? ⟨b7, 0, none⟩ = some (.bool e1) ∧ w'.cell? ⟨b7, 1, none⟩ = some (.slice e2 e3 e4) ∧ w'.cell? ⟨b7, 2, none⟩ = some (.slice e5 e6 e7) ∧ w'.cell? ⟨b7, 3, none⟩ = some (.bool e8) ∧ w'.cell? ⟨b7, 4, none⟩ = some (.int .i64 e9) ∧ w'.cell? ⟨b7, 5, none⟩ = some (.int .i64 e10) ∧ w'.cell? ⟨w.heap.size, 1, none⟩ = some (.slice (some ⟨g2, off2, none⟩) m c2) ∧ w'.cell? ⟨g2, off2 + k * 2, none⟩ = some (.int .i64 (frN fs k)) ∧ w'.cell? ⟨g2, off2 + k * 2 + 1, none⟩ = some (.int .i64 (frD fs k))) := Lib.hid (fun w' hb => ⟨(HC7.out.all hb).c0, (HC7.out.all hb).c1, (HC7.out.all hb).c2, (HC7.out.all hb).c3, (HC7.out.all hb).c4, (HC7.out.all hb).c5, (HI2.out.bx.all hb).c1, (hb.cell (p := ⟨g2, off2 + k * 2, none⟩) (World.block_lt_of_cell? wc _ d1)).trans d1, (hb.cell (p := ⟨g2, off2 + k * 2 + 1, none⟩) (World.block_lt_of_cell? wc _ d2)).trans d2⟩)
          have HO9 : Hid ((Value.slice ga k ca).ownBlock ≠ some g2) := Lib.hid (fun e => by
            have := (HM.out.own.lt _ e).1
            obtain ⟨g3, off3, e3, c3, _⟩ := fr_at H4.out.cha hlt
            cases e3
            have h2 := World.block_lt_of_cell? wA _ c3
            exact absurd h2 (Nat.not_lt.2 this))
          clear x0 x1 x2 x3 x4 d1 d2 HM
          go_wp2_with fail
          have HB0 := Lib.hid ((Below.refl wc.heap.size wc).drew)
          have hS : wc.drew.cell? ⟨b7, 0, none⟩ = some (.bool e1) ∧ wc.drew.cell? ⟨b7, 1, none⟩ = some (.slice e2 e3 e4) ∧ wc.drew.cell? ⟨b7, 2, none⟩ = some (.slice e5 e6 e7) ∧ wc.drew.cell? ⟨b7, 3, none⟩ = some (.bool e8) ∧ wc.drew.cell? ⟨b7, 4, none⟩ = some (.int .i64 e9) ∧ wc.drew.cell? ⟨b7, 5, none⟩ = some (.int .i64 e10) ∧ wc.drew.cell? ⟨w.heap.size, 1, none⟩ = some (.slice (some ⟨g2, off2, none⟩) m c2) ∧ wc.drew.cell? ⟨g2, off2 + k * 2, none⟩ = some (.int .i64 (frN fs k)) ∧ wc.drew.cell? ⟨g2, off2 + k * 2 + 1, none⟩ = some (.int .i64 (frD fs k)) := HSB.out _ HB0.out
          refine wp_region_any (by kernel_rfl) (any_of_K (k := 13) (S := fun w' => w'.cell? ⟨b7, 0, none⟩ = some (.bool e1) ∧ w'.cell? ⟨b7, 1, none⟩ = some (.slice e2 e3 e4) ∧ w'.cell? ⟨b7, 2, none⟩ = some (.slice e5 e6 e7) ∧ w'.cell? ⟨b7, 3, none⟩ = some (.bool e8) ∧ w'.cell? ⟨b7, 4, none⟩ = some (.int .i64 e9) ∧ w'.cell? ⟨b7, 5, none⟩ = some (.int .i64 e10) ∧ w'.cell? ⟨w.heap.size, 1, none⟩ = some (.slice (some ⟨g2, off2, none⟩) m c2) ∧ w'.cell? ⟨g2, off2 + k * 2, none⟩ = some (.int .i64 (frN fs k)) ∧ w'.cell? ⟨g2, off2 + k * 2 + 1, none⟩ = some (.int .i64 (frD fs k))) (T := fun _ => True) _ _ _ _ ?_)
          change anyK _ _ _ _ _ _ _ _ _ _ (World.drew wc)
          obtain ⟨wD, hwD⟩ : ∃ w', wc.drew = w' := ⟨_, rfl⟩
          rw [hwD] at HB0 hS ⊢
          clear hwD
          refine anyT_take (i := 0) (n := 13) (v := .slice ga k ca) rfl (by decide) (by kernel_rfl) (by kernel_rfl) (by kernel_rfl) (fun _ _ _ h => h) (Or.inl ⟨by kernel_rfl, fun w' hw => by go_simp⟩) hS trivial ?_
          refine anyK_take (i := 1) (n := 12) (v := .agg #[.bool e1, .slice e2 e3 e4, .slice e5 e6 e7, .bool e8, .int .i64 e9, .int .i64 e10]) rfl rfl (by kernel_rfl) (by kernel_rfl) (by kernel_rfl) (by kernel_rfl) (by kernel_rfl) (fun _ _ _ h => h) (Or.inl ⟨by kernel_rfl, fun w' hw => by (obtain ⟨z0, z1, z2, z3, z4, z5, z6, z7, z8⟩ := hw; go_simp)⟩) hS trivial ?_
          refine anyK_take (i := 2) (n := 11) (v := .agg #[.bool e1, .slice e2 e3 e4, .slice e5 e6 e7, .bool e8, .int .i64 e9, .int .i64 e10]) rfl rfl (by kernel_rfl) (by kernel_rfl) (by kernel_rfl) (by kernel_rfl) (by kernel_rfl) (fun _ _ _ h => h) (Or.inl ⟨by kernel_rfl, fun w' hw => by (obtain ⟨z0, z1, z2, z3, z4, z5, z6, z7, z8⟩ := hw; go_simp)⟩) hS trivial ?_
          refine anyT_take (i := 4) (n := 10) (v := .pointer (some ⟨w.heap.size, 1, none⟩)) rfl (by decide) (by kernel_rfl) (by kernel_rfl) (by kernel_rfl) (fun _ _ _ h => h) (Or.inl ⟨by kernel_rfl, fun w' hw => by go_simp⟩) hS trivial ?_
          refine anyK_take (i := 5) (n := 9) (v := .slice (some ⟨g2, off2, none⟩) m c2) rfl rfl (by kernel_rfl) (by kernel_rfl) (by kernel_rfl) (by kernel_rfl) (by kernel_rfl) (fun _ _ _ h => h) (Or.inl ⟨by kernel_rfl, fun w' hw => by (obtain ⟨z0, z1, z2, z3, z4, z5, z6, z7, z8⟩ := hw; go_simp)⟩) hS trivial ?_
          refine anyT_take (i := 6) (n := 8) (v := .int .i64 (k : Nat)) rfl (by decide) (by kernel_rfl) (by kernel_rfl) (by kernel_rfl) (fun _ _ _ h => h) (Or.inl ⟨by kernel_rfl, fun w' hw => by go_simp⟩) hS trivial ?_
          refine anyT_take (i := 7) (n := 7) (v := .pointer (some ⟨g2, off2 + k * 2, none⟩)) rfl (by decide) (by kernel_rfl) (by kernel_rfl) (by kernel_rfl) (fun _ _ _ h => h) (Or.inl ⟨by kernel_rfl, fun w' hw => by go_simp⟩) hS trivial ?_
          refine anyK_take (i := 8) (n := 6) (v := .agg #[.int .i64 (frN fs k), .int .i64 (frD fs k)]) rfl rfl (by kernel_rfl) (by kernel_rfl) (by kernel_rfl) (by kernel_rfl) (by kernel_rfl) (fun _ _ _ h => h) (Or.inl ⟨by kernel_rfl, fun w' hw => by (obtain ⟨z0, z1, z2, z3, z4, z5, z6, z7, z8⟩ := hw; go_simp)⟩) hS trivial ?_
          refine anyK_all (n := 5) (rs := [3]) (by kernel_rfl) (by simp) (fun i hi => ?_)
          simp only [List.mem_cons, List.not_mem_nil, or_false] at hi
          obtain rfl := hi
          refine wpOp_step rfl (fun K' hK => ?_)
          go_simp
          refine (B30.wideMul_any e1 e1 e8 e8 e2 e5 e2 e5 e3 e4 e6 e7 e3 e4 e6 e7 e9 e10 e9 e10 _ _ _ _ (60 + (180 + m * 241) + 61) (60 + (180 + m * 241) + 61) _ _ _ (HV7.out.1.below HB0.out) (HV7.out.1.below HB0.out) HV7.out.2.1 HV7.out.2.2 HV7.out.2.1 HV7.out.2.2 (by omega) (by omega)).mono ?_
          rintro e w5 ⟨f1, f2, f3, f4, f5, f6, f7, f8, f9, f10, f11, f12, rfl, hv, hnd, _, hb⟩
          have HB5 := Lib.hid (bthen HB0.out hb)
          have hS5 := HSB.out _ HB5.out
          have HV5 := Lib.hid (And.intro hv hnd)
          refine hK _ _ ⟨fun _ _ => hS5, trivial, ?_⟩
          clear hK hv hnd hb hS
          refine anyK_all (n := 4) (rs := [9]) (by kernel_rfl) (by simp) (fun i hi => ?_)
          simp only [List.mem_cons, List.not_mem_nil, or_false] at hi
          obtain rfl := hi
          refine wpOp_step rfl (fun K' hK => ?_)
          go_simp
          refine (HW2.out _).mono ?_
          rintro e w6 ⟨h1, h2, h3, h4, h5, h6, h7, h8, h9, h10, h11, h12, rfl, hv, hnd, _, hb⟩
          have HB6 := Lib.hid (bthen HB5.out hb)
          have hS6 := HSB.out _ HB6.out
          have HV5 := Lib.hid (And.intro (HV5.out.1.below hb) HV5.out.2)
          have HV6 := Lib.hid (And.intro hv hnd)
          refine hK _ _ ⟨fun _ _ => hS6, trivial, ?_⟩
          clear hK hv hnd hb hS5
          refine anyK_all (n := 3) (rs := [10]) (by kernel_rfl) (by simp) (fun i hi => ?_)
          simp only [List.mem_cons, List.not_mem_nil, or_false] at hi
          obtain rfl := hi
          refine wpOp_step rfl (fun K' hK => ?_)
          go_simp
          refine (B30.wideMul_any f1 h1 f8 h8 f2 f5 h2 h5 f3 f4 f6 f7 h3 h4 h6 h7 f9 f10 h9 h10 _ _ _ _ _ 60 _ _ _ HV5.out.1 HV6.out.1 HV5.out.2.1 HV5.out.2.2 HV6.out.2.1 HV6.out.2.2 (by omega) (by omega)).mono ?_
          rintro e w7 ⟨s5, y1, y2, y3, y4, y5, y6, f5', p5, q5, N5, D5, rfl, hv5, ⟨hN5, hD5⟩, ⟨hA5, hA6⟩, hb⟩
          have HB7 := Lib.hid (bthen HB6.out hb)
          have hS7 := HSB.out _ HB7.out
          have hbits : 60 + (180 + m * 241) + 61 + (60 + (180 + m * 241) + 61) + 60 + 60 + 60 ≤ BD := by omega
          have HM6 := Lib.hid (HM2.out.all HB6.out)
          have HW7 := Lib.hid (show B30.WvI w7 y1 y4 y2 y3 y5 y6 s5 f5' p5 q5 N5 D5 (vrR vs fs MR k) ∧ (N5 < 2 ^ BD ∧ D5 < 2 ^ BD) ∧ (B30.Off y1 y2 (.slice ga k ca) ∧ B30.Off y4 y5 (.slice ga k ca)) from ⟨by unfold vrR; rw [HX.out]; exact hv5, ⟨Nat.lt_of_lt_of_le hN5 (Nat.pow_le_pow_right (by omega) hbits), Nat.lt_of_lt_of_le hD5 (Nat.pow_le_pow_right (by omega) hbits)⟩, B30.off_of_new HM6.out.own hA5 (Nat.le_refl _), B30.off_of_new HM6.out.own hA6 (Nat.le_refl _)⟩)
          have HM7 := Lib.hid (HM6.out.all hb)
          refine hK _ _ ⟨fun _ _ => hS7, trivial, ?_⟩
          clear hK hv5 hN5 hD5 hA5 hA6 hb hbits hS6 HV5 HV6
          refine anyK_all (n := 2) (rs := [11]) (by kernel_rfl) (by simp) (fun i hi => ?_)
          simp only [List.mem_cons, List.not_mem_nil, or_false] at hi
          obtain rfl := hi
          refine wpOp_step rfl (fun K' hK => ?_)
          go_simp
          have hb8 : Below w7.heap.size w7 (w7.alloc (.cells #[.bool s5, .slice y1 y2 y3, .slice y4 y5 y6, .bool f5', .int .i64 p5, .int .i64 q5] 97)) := (Below.refl _ w7).alloc (Nat.le_refl _) _
          have HM8 := Lib.hid (HM7.out.all hb8)
          have HB8 := Lib.hid (bthen HB7.out hb8)
          have hS8 := HSB.out _ HB8.out
          have HV8 := Lib.hid (And.intro (HW7.out.1.below hb8) HW7.out.2)
          have HC8 := Lib.hid (B30.C6.new w7 97 (.bool s5) (.slice y1 y2 y3) (.slice y4 y5 y6) (.bool f5') (.int .i64 p5) (.int .i64 q5))
          refine hK _ _ ⟨fun _ _ => hS8, trivial, ?_⟩
          clear hK hb8 hS7 HM7 HW7
          obtain ⟨w8, hw8⟩ : ∃ w', (w7.alloc (.cells #[.bool s5, .slice y1 y2 y3, .slice y4 y5 y6, .bool f5', .int .i64 p5, .int .i64 q5] 97)) = w' := ⟨_, rfl⟩
          obtain ⟨b8, hbb8⟩ : ∃ b, w7.heap.size = b := ⟨_, rfl⟩
          rw [hw8] at HM8 hS8 HV8 HB8
          rw [hw8, hbb8] at HC8
          rw [hw8, hbb8]
          clear hw8 hbb8
          refine anyK_all (n := 1) (rs := [12]) (by kernel_rfl) (by simp) (fun i hi => ?_)
          simp only [List.mem_cons, List.not_mem_nil, or_false] at hi
          obtain rfl := hi
          refine wpOp_step rfl (fun K' hK => ?_)
          refine B30.step_ap6 rfl (.tmp 33) (.tmp 44) 101 rfl wA.heap.size 97 (.agg #[.bool false, .slice none 0 0, .slice none 0 0, .bool false, .int .i64 0, .int .i64 0]) 80 Try.underlying101 B30.infoWide rfl (.slice ga k ca) k xs rfl HM8.out.own b8 _ _ _ _ _ _ rfl HC8.out rfl (by omega) (by omega) HM8.out.bel.size ?_
          intro v9 w9 hown hgrow hat
          obtain ⟨ag9, cg9, rfl⟩ := B30.own_shape hown
          have HM9 := Lib.hid (HM8.out.push hown hgrow hat HV8.out.1 HV8.out.2.2.1 HV8.out.2.2.2 HV8.out.2.1.1 HV8.out.2.1.2)
          have hS9 := And.intro (cellG hgrow hS8.1 HO7.out) (And.intro (cellG hgrow hS8.2.1 HO7.out) (And.intro (cellG hgrow hS8.2.2.1 HO7.out) (And.intro (cellG hgrow hS8.2.2.2.1 HO7.out) (And.intro (cellG hgrow hS8.2.2.2.2.1 HO7.out) (And.intro (cellG hgrow hS8.2.2.2.2.2.1 HO7.out) (And.intro (cellG hgrow hS8.2.2.2.2.2.2.1 HO8.out) (And.intro (cellG hgrow hS8.2.2.2.2.2.2.2.1 HO9.out) (cellG hgrow hS8.2.2.2.2.2.2.2.2 HO9.out))))))))
          refine hK _ _ ⟨fun _ _ => hS9, trivial, ?_⟩
          clear hK hown hgrow hat hS8 HM8 HV8 HC8 HB8
          refine anyK_all (n := 0) (rs := [13]) (by kernel_rfl) (by simp) (fun i hi => ?_)
          simp only [List.mem_cons, List.not_mem_nil, or_false] at hi
          obtain rfl := hi
          refine wpOp_step rfl (fun K' hK => ?_)
          go_simp
          refine hK _ _ ⟨fun h => absurd rfl h, trivial, ?_⟩
          clear hK
          refine ⟨by kernel_rfl, ?_⟩
          go_wp2_with fail
          have hmm : m - ((k : Int) + 1).toNat < m - ((k : Int)).toNat := by omega
          refine ⟨⟨k + 1, ag9, cg9, _, by omega, by rw [show ((k + 1 : Nat) : Int) = (k : Int) + 1 from by omega], rfl, HM9⟩, ?_⟩
          exact hmm
      · obtain rfl : k = m := by omega
        have HSU := Lib.hid (B30.l05Sum_any ga k ca (vrR vs fs MR) BD wr hm64 hBD2 HM.out.list)
        obtain ⟨pp, qq, b', hform⟩ := fracV_form' (B30.sumW (vrR vs fs MR) k)
        have HC := Lib.hid (show lrV vs fs k k (varR vs fs k) = .tuple #[.agg #[.int .i64 pp, .int .i64 qq], .bool b'] by unfold lrV varR; rw [HQ.out, if_pos rfl, HMR.out, hform])
        have HFO := Lib.hid hform
        clear hform
        obtain ⟨x0, x1, x2, x3, x4⟩ := HI.out.bx
        go_wp2_with fail
        refine HSU.out.mono ?_
        rintro e w7 ⟨sx, t1, t2, t3, t4, t5, t6, f3, p3, q3, N3, D3, rfl, hv3, ⟨hN3, hD3⟩, ⟨hn1, hn2⟩, hb3⟩
        have hjb : 60 + k * (BD + 61) ≤ 30 * 500000 := by
          have : k * (BD + 61) ≤ 64 * 40061 := Nat.mul_le_mul (by omega) (by omega)
          omega
        have HG := Lib.hid (B30.give_any sx f3 t1 t4 t2 t3 t5 t6 p3 q3 N3 D3 _ w7 hv3 (B30.big_lt hv3.n hN3 hjb) (B30.big_lt hv3.d hD3 hjb) (hn1.le (Nat.zero_le _)) (hn2.le (Nat.zero_le _)))
        rw [HFO.out] at HG
        have H7 := Lib.hid (HI.out.all hb3)
        clear hv3 hN3 hD3 hn1 hn2 hb3 hjb x0 x1 x2 x3 x4
        obtain ⟨y0, y1, y2, y3, y4⟩ := H7.out.res
        go_wp2_with fail
        refine HG.out.mono ?_
        rintro e w8 ⟨rfl, hb⟩
        have H8 := Lib.hid (H7.out.all hb)
        clear hb y0 y1 y2 y3 y4
        obtain ⟨y0, y1, y2, y3, y4⟩ := H8.out.res
        go_wp2_with fail
        refine bodyPost_ret (v := .tuple #[.agg #[.int .i64 pp, .int .i64 qq], .bool b']) (by simp [results, Try.results27, go_sem, *]) rfl ⟨by rw [HC.out], ?_⟩
        exact below_two H8.out.bel (by omega) _ _
end Go.Proofs.Ytklnfhjgbmfilaa
/- The program's variance, and the law. No condition. -/
namespace Go.Proofs.Ytklnfhjgbmfilaa
open Go.RowKit
set_option linter.unusedVariables false

/-- The squared distance of a value from the mean. -/
def dvR (vs : List Int) (MR : Rat) (k : Nat) : Rat := (((vs.getD k 0 : Int) : Rat) - MR) * (((vs.getD k 0 : Int) : Rat) - MR)
theorem pm_var (vs fs : List Int) (MR : Rat) : ∀ n, pmR (dvR vs MR) fs n = B30.sumW (vrR vs fs (mkRat (-1) (Int.toNat 1) * MR)) n
  | 0 => rfl
  | n + 1 => by
    rw [pmR, B30.sumW, pm_var vs fs MR n]
    have e : ((vs.getD n 0 : Int) : Rat) - MR = mkRat (vs.getD n 0) 1 + mkRat (-1) (Int.toNat 1) * MR := by
      rw [mk_one, show mkRat (-1) (Int.toNat 1) = -1 from by decide]
      grind
    unfold dvR vrR
    rw [e]
theorem dv_bits {vs : List Int} {MR : Rat} {y k : Nat} (h1 : -1000000000000000 ≤ vs.getD k 0) (h2 : vs.getD k 0 ≤ 1000000000000000) (hm : bitsR MR y) : bitsR (dvR vs MR k) (50 + y + 1 + (50 + y + 1)) :=
  bits_mul (bits_sub (bits_val h1 h2) hm) (bits_sub (bits_val h1 h2) hm)
set_option maxRecDepth 20000 in
set_option maxHeartbeats 1600000 in
theorem var1_any (x : Int) (b2 y : Nat) (r : Rat) (w : World) (hx : -1000000000000000 ≤ x ∧ x ≤ 1000000000000000) (hr : RBox w b2 r) (hbits : bitsR r y) (hy : y ≤ 7200) :
    Calls Try.prog 72 #[.int .i64 x, .pointer (some ⟨b2, 0, none⟩)] w (RetR w ((((x : Int) : Rat) - r) * (((x : Int) : Rat) - r))) := by
  obtain ⟨u1, g1, s1, u2, g2, s2, hC3, hRV⟩ := hr
  obtain ⟨sg, hsg⟩ : ∃ sg, decide (r.num < 0) = sg := ⟨_, rfl⟩
  rw [hsg] at hC3
  have hA : Below w.heap.size w (w.alloc (.cells #[.bool false, .slice none 0 0, .slice none 0 0] 79)) := (Below.refl _ w).alloc (Nat.le_refl _) _
  have H0 := Lib.hid (And.intro (C3.new w 79 (.bool false) (.slice none 0 0) (.slice none 0 0)) (And.intro (hC3.all hA) hA))
  have HRV := Lib.hid (hRV.below hA)
  have HSG := Lib.hid hsg
  have HW := Lib.hid (fun w => whole_rr x w (by omega) (by omega))
  have HXB := Lib.hid (bits_val hx.1 hx.2)
  have HRB := Lib.hid hbits
  have HDB := Lib.hid (bits_sub (bits_val hx.1 hx.2) hbits)
  clear hC3 hRV hsg hA hbits hx
  go_enter Try.func72, Try.ntmps72
  go_wp2_with fail
  obtain ⟨wA, hwA⟩ : ∃ w', w.alloc (.cells #[.bool false, .slice none 0 0, .slice none 0 0] 79) = w' := ⟨_, rfl⟩
  rw [hwA] at H0 HRV
  try rw [hwA]
  clear hwA
  go_cut [4] (fun v4 wc => ∃ b4 : Nat, v4 = .pointer (some ⟨b4, 0, none⟩) ∧ Hid (RBox wc b4 (((x : Int) : Rat) - r) ∧ Below wA.heap.size wA wc))
  case first =>
    have HSA : Hid (∀ w', Below wA.heap.size wA w' → w'.cell? ⟨b2, 0, none⟩ = some (.bool sg) ∧ w'.cell? ⟨b2, 1, none⟩ = some (.slice u1 s1 g1) ∧ w'.cell? ⟨b2, 2, none⟩ = some (.slice u2 s2 g2)) := Lib.hid (fun w' hb => ⟨(H0.out.2.1.all hb).c0, (H0.out.2.1.all hb).c1, (H0.out.2.1.all hb).c2⟩)
    have HB0 := Lib.hid ((Below.refl wA.heap.size wA).drew)
    have hS : wA.drew.cell? ⟨b2, 0, none⟩ = some (.bool sg) ∧ wA.drew.cell? ⟨b2, 1, none⟩ = some (.slice u1 s1 g1) ∧ wA.drew.cell? ⟨b2, 2, none⟩ = some (.slice u2 s2 g2) := HSA.out _ HB0.out
    refine wp_region_any (by kernel_rfl) (any_of_K (k := 5) (S := fun w' => w'.cell? ⟨b2, 0, none⟩ = some (.bool sg) ∧ w'.cell? ⟨b2, 1, none⟩ = some (.slice u1 s1 g1) ∧ w'.cell? ⟨b2, 2, none⟩ = some (.slice u2 s2 g2)) (T := fun _ => True) _ _ _ _ ?_)
    change anyK _ _ _ _ _ _ _ _ _ _ (World.drew wA)
    obtain ⟨wD, hwD⟩ : ∃ w', wA.drew = w' := ⟨_, rfl⟩
    rw [hwD] at HB0 hS ⊢
    clear hwD
    refine anyT_take (i := 0) (n := 5) (v := .int .i64 x) rfl (by decide) (by kernel_rfl) (by kernel_rfl) (by kernel_rfl) (fun _ _ _ h => h) (Or.inl ⟨by kernel_rfl, fun w' hw => by go_simp⟩) hS trivial ?_
    refine anyK_take (i := 2) (n := 4) (v := .agg #[.bool sg, .slice u1 s1 g1, .slice u2 s2 g2]) rfl rfl (by kernel_rfl) (by kernel_rfl) (by kernel_rfl) (by kernel_rfl) (by kernel_rfl) (fun _ _ _ h => h) (Or.inl ⟨by kernel_rfl, fun w' hw => by (obtain ⟨z0, z1, z2⟩ := hw; go_simp)⟩) hS trivial ?_
    refine anyK_all (n := 3) (rs := [1, 4]) (by kernel_rfl) (by simp) (fun i hi => ?_)
    simp only [List.mem_cons, List.not_mem_nil, or_false] at hi
    rcases hi with rfl | rfl
    · refine wpOp_step rfl (fun K' hK => ?_)
      go_simp
      refine (HW.out _).mono ?_
      rintro e v1 ⟨sgw, i1, j1, m1, i2, j2, m2, rfl, hv, hb, hsg⟩
      have HB1 := Lib.hid (bthen HB0.out hb)
      have HV1 := Lib.hid (And.intro hv hsg)
      clear hv hsg
      have hS1 := HSA.out _ HB1.out
      refine hK _ _ ⟨fun _ _ => hS1, trivial, ?_⟩
      clear hK hb
      refine anyK_all (n := 2) (rs := [3, 4]) (by kernel_rfl) (by simp) (fun i hi => ?_)
      simp only [List.mem_cons, List.not_mem_nil, or_false] at hi
      rcases hi with rfl | rfl
      · refine wpOp_step rfl (fun K' hK => ?_)
        go_simp
        have HMI := Lib.hid (minus_rr ((x : Int) : Rat) r 50 y i1 i2 u1 u2 j1 j2 g1 g2 m1 m2 s1 s2 v1 HV1.out.1 (HRV.out.below HB1.out) HXB.out HRB.out (by omega) (by omega))
        rw [HSG.out, ← HV1.out.2] at HMI
        refine HMI.out.mono ?_
        rintro e v2 ⟨sgd, i3, j3, m3, i4, j4, m4, rfl, hv, hb, hsg⟩
        have HB2 := Lib.hid (bthen HB1.out hb)
        have HV2 := Lib.hid (And.intro hv hsg)
        clear hv hsg
        have hS2 := HSA.out _ HB2.out
        refine hK _ _ ⟨fun _ _ => hS2, trivial, ?_⟩
        clear hK hb
        refine anyK_all (n := 1) (rs := [4]) (by kernel_rfl) (by simp) (fun i hi => ?_)
        simp only [List.mem_cons, List.not_mem_nil, or_false] at hi
        obtain rfl := hi
        refine wpOp_step rfl (fun K' hK => ?_)
        go_simp
        have hb : Below v2.heap.size v2 (v2.alloc (.cells #[.bool false, .slice none 0 0, .slice none 0 0] 79)) := (Below.refl _ _).alloc (Nat.le_refl _) _
        have HB3 := Lib.hid (bthen HB2.out hb)
        have HX3 := Lib.hid (And.intro (C3.new v2 79 (.bool false) (.slice none 0 0) (.slice none 0 0)) HB2.out.size)
        have HV3 := Lib.hid (And.intro (HV2.out.1.below hb) HV2.out.2)
        have hS3 := HSA.out _ HB3.out
        refine hK _ _ ⟨fun _ _ => hS3, trivial, ?_⟩
        clear hK hb
        obtain ⟨v3, hw⟩ : ∃ w', v2.alloc (.cells #[.bool false, .slice none 0 0, .slice none 0 0] 79) = w' := ⟨_, rfl⟩
        obtain ⟨b3, hbb⟩ : ∃ b, v2.heap.size = b := ⟨_, rfl⟩
        rw [hw] at HB3 hS3 HV3
        rw [hw, hbb] at HX3
        rw [hw, hbb]
        clear hw hbb
        obtain ⟨y0, y1, y2, y3, y4, y5, y6⟩ := HX3.out.1
        refine anyK_all (n := 0) (rs := [5]) (by kernel_rfl) (by simp) (fun i hi => ?_)
        simp only [List.mem_cons, List.not_mem_nil, or_false] at hi
        obtain rfl := hi
        refine wpOp_step rfl (fun K' hK => ?_)
        go_simp
        refine hK _ _ ⟨fun h => absurd rfl h, trivial, ?_⟩
        clear hK
        refine ⟨by kernel_rfl, ?_⟩
        go_wp2_with fail
        go_meet
        exact ⟨_, rfl, Lib.hid ⟨⟨i3, j3, m3, i4, j4, m4, by rw [← HV3.out.2]; exact put3_box HX3.out.1 _ _ _, HV3.out.1.ints (put3_ints HX3.out.1 _ _ _)⟩, put3_below HB3.out HX3.out.2 _ _ _⟩⟩
      · refine wpOp_step rfl (fun K' hK => ?_)
        go_simp
        have hb : Below v1.heap.size v1 (v1.alloc (.cells #[.bool false, .slice none 0 0, .slice none 0 0] 79)) := (Below.refl _ _).alloc (Nat.le_refl _) _
        have HB4 := Lib.hid (bthen HB1.out hb)
        have HX4 := Lib.hid (And.intro (C3.new v1 79 (.bool false) (.slice none 0 0) (.slice none 0 0)) HB1.out.size)
        have HV4 := Lib.hid (And.intro (HV1.out.1.below hb) HV1.out.2)
        have hS4 := HSA.out _ HB4.out
        refine hK _ _ ⟨fun _ _ => hS4, trivial, ?_⟩
        clear hK hb
        obtain ⟨v4, hw⟩ : ∃ w', v1.alloc (.cells #[.bool false, .slice none 0 0, .slice none 0 0] 79) = w' := ⟨_, rfl⟩
        obtain ⟨b4, hbb⟩ : ∃ b, v1.heap.size = b := ⟨_, rfl⟩
        rw [hw] at HB4 hS4 HV4
        rw [hw, hbb] at HX4
        rw [hw, hbb]
        clear hw hbb
        refine anyK_all (n := 1) (rs := [3]) (by kernel_rfl) (by simp) (fun i hi => ?_)
        simp only [List.mem_cons, List.not_mem_nil, or_false] at hi
        obtain rfl := hi
        refine wpOp_step rfl (fun K' hK => ?_)
        go_simp
        have HMI := Lib.hid (minus_rr ((x : Int) : Rat) r 50 y i1 i2 u1 u2 j1 j2 g1 g2 m1 m2 s1 s2 v4 HV4.out.1 (HRV.out.below HB4.out) HXB.out HRB.out (by omega) (by omega))
        rw [HSG.out, ← HV4.out.2] at HMI
        refine HMI.out.mono ?_
        rintro e v5 ⟨sgd, i3, j3, m3, i4, j4, m4, rfl, hv, hb, hsg⟩
        have HB5 := Lib.hid (bthen HB4.out hb)
        have HV5 := Lib.hid (And.intro hv hsg)
        clear hv hsg
        have HX5 := Lib.hid (And.intro (HX4.out.1.all hb) HX4.out.2)
        have hS5 := HSA.out _ HB5.out
        refine hK _ _ ⟨fun _ _ => hS5, trivial, ?_⟩
        clear hK hb
        obtain ⟨y0, y1, y2, y3, y4, y5, y6⟩ := HX5.out.1
        refine anyK_all (n := 0) (rs := [5]) (by kernel_rfl) (by simp) (fun i hi => ?_)
        simp only [List.mem_cons, List.not_mem_nil, or_false] at hi
        obtain rfl := hi
        refine wpOp_step rfl (fun K' hK => ?_)
        go_simp
        refine hK _ _ ⟨fun h => absurd rfl h, trivial, ?_⟩
        clear hK
        refine ⟨by kernel_rfl, ?_⟩
        go_wp2_with fail
        go_meet
        exact ⟨_, rfl, Lib.hid ⟨⟨i3, j3, m3, i4, j4, m4, by rw [← HV5.out.2]; exact put3_box HX5.out.1 _ _ _, HV5.out.1.ints (put3_ints HX5.out.1 _ _ _)⟩, put3_below HB5.out HX5.out.2 _ _ _⟩⟩
    · refine wpOp_step rfl (fun K' hK => ?_)
      go_simp
      have hb : Below wD.heap.size wD (wD.alloc (.cells #[.bool false, .slice none 0 0, .slice none 0 0] 79)) := (Below.refl _ _).alloc (Nat.le_refl _) _
      have HB6 := Lib.hid (bthen HB0.out hb)
      have HX6 := Lib.hid (And.intro (C3.new wD 79 (.bool false) (.slice none 0 0) (.slice none 0 0)) HB0.out.size)
      have hS6 := HSA.out _ HB6.out
      refine hK _ _ ⟨fun _ _ => hS6, trivial, ?_⟩
      clear hK hb
      obtain ⟨v6, hw⟩ : ∃ w', wD.alloc (.cells #[.bool false, .slice none 0 0, .slice none 0 0] 79) = w' := ⟨_, rfl⟩
      obtain ⟨b6, hbb⟩ : ∃ b, wD.heap.size = b := ⟨_, rfl⟩
      rw [hw] at HB6 hS6
      rw [hw, hbb] at HX6
      rw [hw, hbb]
      clear hw hbb
      refine anyK_all (n := 2) (rs := [1]) (by kernel_rfl) (by simp) (fun i hi => ?_)
      simp only [List.mem_cons, List.not_mem_nil, or_false] at hi
      obtain rfl := hi
      refine wpOp_step rfl (fun K' hK => ?_)
      go_simp
      refine (HW.out _).mono ?_
      rintro e v7 ⟨sgw, i1, j1, m1, i2, j2, m2, rfl, hv, hb, hsg⟩
      have HB7 := Lib.hid (bthen HB6.out hb)
      have HV7 := Lib.hid (And.intro hv hsg)
      clear hv hsg
      have HX7 := Lib.hid (And.intro (HX6.out.1.all hb) HX6.out.2)
      have hS7 := HSA.out _ HB7.out
      refine hK _ _ ⟨fun _ _ => hS7, trivial, ?_⟩
      clear hK hb
      refine anyK_all (n := 1) (rs := [3]) (by kernel_rfl) (by simp) (fun i hi => ?_)
      simp only [List.mem_cons, List.not_mem_nil, or_false] at hi
      obtain rfl := hi
      refine wpOp_step rfl (fun K' hK => ?_)
      go_simp
      have HMI := Lib.hid (minus_rr ((x : Int) : Rat) r 50 y i1 i2 u1 u2 j1 j2 g1 g2 m1 m2 s1 s2 v7 HV7.out.1 (HRV.out.below HB7.out) HXB.out HRB.out (by omega) (by omega))
      rw [HSG.out, ← HV7.out.2] at HMI
      refine HMI.out.mono ?_
      rintro e v8 ⟨sgd, i3, j3, m3, i4, j4, m4, rfl, hv, hb, hsg⟩
      have HB8 := Lib.hid (bthen HB7.out hb)
      have HV8 := Lib.hid (And.intro hv hsg)
      clear hv hsg
      have HX8 := Lib.hid (And.intro (HX7.out.1.all hb) HX7.out.2)
      have hS8 := HSA.out _ HB8.out
      refine hK _ _ ⟨fun _ _ => hS8, trivial, ?_⟩
      clear hK hb
      obtain ⟨y0, y1, y2, y3, y4, y5, y6⟩ := HX8.out.1
      refine anyK_all (n := 0) (rs := [5]) (by kernel_rfl) (by simp) (fun i hi => ?_)
      simp only [List.mem_cons, List.not_mem_nil, or_false] at hi
      obtain rfl := hi
      refine wpOp_step rfl (fun K' hK => ?_)
      go_simp
      refine hK _ _ ⟨fun h => absurd rfl h, trivial, ?_⟩
      clear hK
      refine ⟨by kernel_rfl, ?_⟩
      go_wp2_with fail
      go_meet
      exact ⟨_, rfl, Lib.hid ⟨⟨i3, j3, m3, i4, j4, m4, by rw [← HV8.out.2]; exact put3_box HX8.out.1 _ _ _, HV8.out.1.ints (put3_ints HX8.out.1 _ _ _)⟩, put3_below HB8.out HX8.out.2 _ _ _⟩⟩
  case rest =>
    obtain ⟨b4, rfl, HC⟩ := hcut
    obtain ⟨a1, c1, l1, a2, c2, l2, hC4, hRV4⟩ := HC.out.1
    obtain ⟨sd, hsd⟩ : ∃ sd, decide ((((x : Int) : Rat) - r).num < 0) = sd := ⟨_, rfl⟩
    rw [hsd] at hC4
    have HTM := Lib.hid (times_rr (((x : Int) : Rat) - r) (((x : Int) : Rat) - r) (50 + y + 1) (50 + y + 1) a1 a2 a1 a2 c1 c2 c1 c2 l1 l2 l1 l2 wc hRV4 hRV4 HDB.out HDB.out (by omega) (by omega))
    rw [hsd] at HTM
    have H1 := Lib.hid (And.intro (H0.out.1.all HC.out.2) (bthen H0.out.2.2 HC.out.2))
    clear hRV4 hsd HC H0 HW HXB HRB HDB HRV HSG
    obtain ⟨z0, z1, z2, z3, z4, z5, z6⟩ := hC4
    go_wp2_with fail
    refine HTM.out.mono ?_
    rintro e w5 ⟨sq, q1, k1, n1, q2, k2, n2, rfl, hv, hb, hsq⟩
    have H5 := Lib.hid (And.intro (H1.out.1.all hb) (bthen H1.out.2 hb))
    have HV := Lib.hid (And.intro hv hsq)
    clear hv hb hsq H1 HTM z0 z1 z2 z3 z4 z5 z6
    obtain ⟨y0, y1, y2, y3, y4, y5, y6⟩ := H5.out.1
    go_wp2_with fail
    refine bodyPost_ret (v := .agg #[.bool sq, .slice q1 n1 k1, .slice q2 n2 k2]) (by simp [results, Try.results72, go_sem, *]) rfl ?_
    exact ⟨sq, q1, k1, n1, q2, k2, n2, rfl, HV.out.1.ints (put3_ints H5.out.1 _ _ _), put3_below H5.out.2 (by omega) _ _ _, HV.out.2⟩
set_option maxHeartbeats 1600000 in
theorem varianceOf_any (a1 a2 : Option Addr) (n m c1 c2 : Nat) (vs fs : List Int) (w : World) (hn : n ≤ 1048576) (hm : m ≤ 1048576) (h1 : IsInts w a1 n vs) (h2 : IsInts w a2 (m * 2) fs) :
    Calls Try.prog 29 #[.agg #[.slice a1 n c1, .slice a2 m c2]] w fun e w' => e = .returned (lrV vs fs n m (varR vs fs n)) ∧ Below w.heap.size w w' := by
  have hl := h1.1
  have hA : Below w.heap.size w ((w.alloc (.cells #[.slice a1 n c1, .slice a2 m c2] 43)).alloc (.cells #[.int .i64 0, .int .i64 0] 33)) := ((Below.refl _ w).alloc (Nat.le_refl _) _).alloc (by simp) _
  have hc0 : C2 ((w.alloc (.cells #[.slice a1 n c1, .slice a2 m c2] 43)).alloc (.cells #[.int .i64 0, .int .i64 0] 33)) w.heap.size (.slice a1 n c1) (.slice a2 m c2) := (C2.new w _ _ _).all ((Below.refl _ _).alloc (Nat.le_refl _) _)
  have hc1 : C2 ((w.alloc (.cells #[.slice a1 n c1, .slice a2 m c2] 43)).alloc (.cells #[.int .i64 0, .int .i64 0] 33)) (w.heap.size + 1) (.int .i64 0) (.int .i64 0) := by
    have := C2.new (w.alloc (.cells #[.slice a1 n c1, .slice a2 m c2] 43)) 33 (.int .i64 0) (.int .i64 0)
    rw [alloc_size] at this; exact this
  have H0 := Lib.hid (And.intro hc0 (And.intro hc1 (And.intro (h1.below hA) (And.intro (h2.below hA) hA))))
  have HV := Lib.hid (fun w h1 h2 => validLaw_any a1 a2 n m c1 c2 vs fs w hn hm h1 h2)
  clear hA hc0 hc1 h1 h2
  obtain ⟨ok, hok⟩ : ∃ ok, lawOk vs fs n m = ok := ⟨_, rfl⟩
  rw [hok] at HV
  have HQ := Lib.hid hok
  have HL := Lib.hid hl
  clear hok hl
  go_enter Try.func29, Try.ntmps29
  go_wp2_with fail
  obtain ⟨wA, hwA⟩ : ∃ w', ((w.alloc (.cells #[.slice a1 n c1, .slice a2 m c2] 43)).alloc (.cells #[.int .i64 0, .int .i64 0] 33)) = w' := ⟨_, rfl⟩
  rw [hwA] at H0 ⊢
  clear hwA
  refine (HV.out _ H0.out.2.2.1 H0.out.2.2.2.1).mono ?_
  rintro e w1 ⟨rfl, hb⟩
  have H1 := Lib.hid (And.intro (H0.out.1.all hb) (And.intro (H0.out.2.1.all hb) (And.intro (H0.out.2.2.1.below hb) (And.intro (H0.out.2.2.2.1.below hb) (bthen H0.out.2.2.2.2 hb)))))
  clear hb H0
  obtain ⟨x0, x1, x2, x3, x4⟩ := H1.out.1
  obtain ⟨y0, y1, y2, y3, y4⟩ := H1.out.2.1
  cases ok with
  | false =>
    have HC := Lib.hid (show lrV vs fs n m (varR vs fs n) = zeroF by unfold lrV; rw [HQ.out]; rfl)
    go_wp2_with fail
    refine bodyPost_ret (v := .tuple #[.agg #[.int .i64 0, .int .i64 0], .bool false]) (by simp [results, Try.results29, go_sem, *]) rfl ⟨by rw [HC.out]; rfl, ?_⟩
    exact below_two H1.out.2.2.2.2 (by omega) _ _
  | true =>
    obtain ⟨rfl, hq⟩ := lawQ_of HL.out HQ.out
    obtain ⟨p, q, b', hform⟩ := fracV_form' (varR vs fs m)
    have HC := Lib.hid (show lrV vs fs m m (varR vs fs m) = .tuple #[.agg #[.int .i64 p, .int .i64 q], .bool b'] by unfold lrV; rw [HQ.out, if_pos rfl, hform])
    have hvb : ∀ k, k < m → bitsR ((vs.getD k 0 : Int) : Rat) 50 := fun k hk => bits_val (hq.rng k hk).1 (hq.rng k hk).2
    have HS := Lib.hid (pmean0_any 45 (fun k => ((vs.getD k 0 : Int) : Rat)) 50 a1 a2 m c1 c2 vs fs w1 hq.n64 (by omega) H1.out.2.2.1 H1.out.2.2.2.1 hq.ok hvb (fun _ _ => by kernel_rfl) (fun k hk wr hb => whole_rr (vs.getD k 0) wr (by have := hq.rng k hk; omega) (by have := hq.rng k hk; omega)))
    have hB := pm_bits (G := fun k => ((vs.getD k 0 : Int) : Rat)) (fs := fs) (n := m) hq.ok hvb
    have hm64 := hq.n64
    rw [pm_sum] at HS hB
    obtain ⟨MR, hMR⟩ : ∃ MR, B30.sumW (B30.mnR vs fs) m = MR := ⟨_, rfl⟩
    rw [hMR] at HS hB
    have hB2 : bitsR MR 7200 := hB.mono (by omega)
    have HMB := Lib.hid hB2
    have HVR := Lib.hid (show pmR (dvR vs MR) fs m = varR vs fs m by rw [pm_var]; unfold varR; rw [hMR])
    have hdb : ∀ k, k < m → bitsR (dvR vs MR k) 14502 := fun k hk => (dv_bits (hq.rng k hk).1 (hq.rng k hk).2 hB2).mono (by omega)
    have HDB := Lib.hid hdb
    have HB := Lib.hid (pm_bits (G := dvR vs MR) (fs := fs) (n := m) hq.ok hdb)
    have HQQ := Lib.hid hq
    have HFO := Lib.hid hform
    clear hform hq hvb hB hB2 hdb hMR
    go_wp2_with fail
    refine HS.out.mono ?_
    rintro e w2 ⟨sg, d1, k1, l1, d2, k2, l2, rfl, hv, hb, hsg⟩
    have hb2 : Below w2.heap.size w2 (w2.alloc (.cells #[.bool sg, .slice d1 l1 k1, .slice d2 l2 k2] 79)) := (Below.refl _ _).alloc (Nat.le_refl _) _
    have hbb := bthen hb hb2
    have H2 := Lib.hid (And.intro (H1.out.1.all hbb) (And.intro (H1.out.2.1.all hbb) (And.intro (H1.out.2.2.1.below hbb) (And.intro (H1.out.2.2.2.1.below hbb) (And.intro (bthen H1.out.2.2.2.2 hbb)
      (show RBox (w2.alloc (.cells #[.bool sg, .slice d1 l1 k1, .slice d2 l2 k2] 79)) w2.heap.size MR from ⟨d1, k1, l1, d2, k2, l2, by rw [← hsg]; exact C3.new w2 _ _ _ _, hv.below hb2⟩))))))
    clear hb hb2 hbb hsg hv H1 x0 x1 x2 x3 x4 y0 y1 y2 y3 y4 HS
    obtain ⟨x0, x1, x2, x3, x4⟩ := H2.out.1
    go_wp2_with fail
    obtain ⟨b6, hb6⟩ : ∃ b, w2.heap.size = b := ⟨_, rfl⟩
    obtain ⟨w3, hw3⟩ : ∃ w', w2.alloc (.cells #[.bool sg, .slice d1 l1 k1, .slice d2 l2 k2] 79) = w' := ⟨_, rfl⟩
    rw [hw3, hb6] at H2
    rw [hw3, hb6]
    rw [hw3] at x0 x1 x2 x3 x4
    clear hw3 hb6
    have HS := pmean1_any ⟨b6, 0, none⟩ 72 (dvR vs MR) 14502 a1 a2 m c1 c2 vs fs w3 hm64 (by omega) H2.out.2.2.1 H2.out.2.2.2.1 HQQ.out.ok HDB.out (fun _ _ => by kernel_rfl) (fun k hk wr hb =>
      var1_any (vs.getD k 0) b6 7200 MR wr (HQQ.out.rng k hk) (H2.out.2.2.2.2.2.all hb) HMB.out (by omega))
    rw [HVR.out] at HS HB
    have HS2 := Lib.hid HS
    clear HS
    refine HS2.out.mono ?_
    rintro e w4 ⟨sg2, e1, f1, n1, e2, f2, n2, rfl, hv, hb, hsg⟩
    have HFR := Lib.hid (fraction_rr (varR vs fs m) ((14502 + 61) * m + 1) e1 e2 f1 f2 n1 n2 w4 hv HB.out (by omega))
    rw [HFO.out, ← hsg] at HFR
    have H4 := Lib.hid (And.intro (H2.out.2.1.all hb) (bthen H2.out.2.2.2.2.1 hb))
    clear hb x0 x1 x2 x3 x4 hv hsg
    obtain ⟨y0, y1, y2, y3, y4⟩ := H4.out.1
    go_wp2_with fail
    refine HFR.out.mono ?_
    rintro e w5 ⟨rfl, hb⟩
    have H5 := Lib.hid (And.intro (H4.out.1.all hb) (bthen H4.out.2 hb))
    clear hb y0 y1 y2 y3 y4
    obtain ⟨y0, y1, y2, y3, y4⟩ := H5.out.1
    go_wp2_with fail
    refine bodyPost_ret (v := .tuple #[.agg #[.int .i64 p, .int .i64 q], .bool b']) (by simp [results, Try.results29, go_sem, *]) rfl ⟨by rw [HC.out], ?_⟩
    exact below_two H5.out.2 (by omega) _ _
theorem fnExactVarianceOf_walk (a1 a2 : Option Addr) (n m c1 c2 : Nat) (vs fs : List Int) (w : World) (hn : n ≤ maxLen) (hm : m ≤ maxLen) (h1 : IsInts w a1 n vs) (h2 : IsInts w a2 (m * 2) fs) :
    Calls Try.prog 7 #[.agg #[.slice a1 n c1, .slice a2 m c2]] w fun e w' => e = .returned (.bool true) ∧ Below w.heap.size w w' := by
  obtain ⟨p, q, b, hf⟩ := lrV_form vs fs n m (varR vs fs n)
  refine fnExactVarianceOf_of a1 a2 n m c1 c2 vs fs w hn hm h1 h2 p q b (fun h w a1 a2 c1 c2 k1 k2 => ?_) (fun h w a1 a2 c1 c2 k1 k2 => ?_)
  · rw [← hf]; exact specVarianceOf_any a1 a2 n m c1 c2 vs fs w (by omega) (by omega) k1 k2
  · rw [← hf]; exact varianceOf_any a1 a2 n m c1 c2 vs fs w (by omega) (by omega) k1 k2
end Go.Proofs.Ytklnfhjgbmfilaa

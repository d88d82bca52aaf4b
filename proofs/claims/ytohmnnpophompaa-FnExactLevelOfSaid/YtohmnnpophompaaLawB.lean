import Derived.Test.YtohmnnpophompaaLawA
/- The law on valid laws. No condition. -/
namespace Go.Proofs.Ytohmnnpophompaa
open Go.RowKit
set_option linter.unusedVariables false

set_option maxHeartbeats 800000 in
theorem eqLaw_read (a1 a2 b1 b2 : Option Addr) (n m c1 c2 d1 d2 : Nat) (vs fs : List Int) (w : World) (hn : n ≤ 1048576) (hm : m ≤ 1048576) (h1 : IsInts w a1 n vs) (h2 : IsInts w a2 (m * 2) fs) (k1 : IsInts w b1 n vs) (k2 : IsInts w b2 (m * 2) fs) :
    Calls Try.prog 34 #[.agg #[.slice a1 n c1, .slice a2 m c2], .agg #[.slice b1 n d1, .slice b2 m d2]] w (Ret w (.bool true)) := by
  have hA : Below w.heap.size w ((w.alloc (.cells #[.slice a1 n c1, .slice a2 m c2] 43)).alloc (.cells #[.slice b1 n d1, .slice b2 m d2] 43)) := ((Below.refl _ w).alloc (Nat.le_refl _) _).alloc (by simp) _
  have H0 := Lib.hid (And.intro (h1.below hA) (And.intro (h2.below hA) (And.intro (k1.below hA) (And.intro (k2.below hA) hA))))
  have h0a : C2 ((w.alloc (.cells #[.slice a1 n c1, .slice a2 m c2] 43)).alloc (.cells #[.slice b1 n d1, .slice b2 m d2] 43)) w.heap.size (.slice a1 n c1) (.slice a2 m c2) := (C2.new w _ _ _).all ((Below.refl _ _).alloc (Nat.le_refl _) _)
  have h0b : C2 ((w.alloc (.cells #[.slice a1 n c1, .slice a2 m c2] 43)).alloc (.cells #[.slice b1 n d1, .slice b2 m d2] 43)) (w.heap.size + 1) (.slice b1 n d1) (.slice b2 m d2) := by
    have := C2.new (w.alloc (.cells #[.slice a1 n c1, .slice a2 m c2] 43)) 43 (.slice b1 n d1) (.slice b2 m d2)
    rw [alloc_size] at this; exact this
  have HC := Lib.hid (And.intro h0a h0b)
  have HE := Lib.hid (fun w (h : IsInts w a1 n vs) (k : IsInts w b1 n vs) => eqInt64S_any a1 b1 n n c1 d1 vs vs w (by omega) h k)
  rw [decide_eq_true (rfl : vs = vs)] at HE
  clear hA h1 h2 k1 k2 h0a h0b
  go_enter Try.func34, Try.ntmps34
  go_wp2_with fail
  refine (HE.out _ H0.out.1 H0.out.2.2.1).mono ?_
  rintro e w1 ⟨rfl, hb1⟩
  have H1 := Lib.hid (And.intro (H0.out.2.1.below hb1) (And.intro (H0.out.2.2.2.1.below hb1) (bthen H0.out.2.2.2.2 hb1)))
  have HC1 := Lib.hid (And.intro (HC.out.1.all hb1) (HC.out.2.all hb1))
  obtain ⟨x0, x1, x2, x3, x4⟩ := HC1.out.1
  obtain ⟨y0, y1, y2, y3, y4⟩ := HC1.out.2
  clear hb1
  go_wp2_with fail
  refine (eqFrS_same _ _ m _ _ fs _ hm H1.out.1 H1.out.2.1).mono ?_
  rintro e w2 ⟨rfl, hb2⟩
  have H2 := Lib.hid (bthen H1.out.2.2 hb2)
  clear hb2
  go_wp2
  go_ret
  exact ⟨rfl, H2.out⟩
theorem specValidLaw_any (a1 a2 : Option Addr) (n m c1 c2 : Nat) (vs fs : List Int) (w : World) (hn : n ≤ 1048576) (hm : m ≤ 1048576) (h1 : IsInts w a1 n vs) (h2 : IsInts w a2 (m * 2) fs) :
    Calls Try.prog 32 #[.agg #[.slice a1 n c1, .slice a2 m c2]] w (Ret w (.bool (lawOk vs fs n m))) := by
  have hA : Below w.heap.size w (w.alloc (.cells #[.slice a1 n c1, .slice a2 m c2] 43)) := (Below.refl _ _).alloc (Nat.le_refl _) _
  have H0 := Lib.hid (And.intro hA (l05Is_any w.heap.size a1 a2 n m c1 c2 vs fs _ hn hm (C2.new w 43 _ _) (h1.below hA) (h2.below hA)))
  obtain ⟨v, hv⟩ : ∃ v, lawOk vs fs n m = v := ⟨_, rfl⟩
  rw [hv] at H0 ⊢
  clear hA h1 h2 hv
  go_enter Try.func32, Try.ntmps32
  go_wp2_with fail
  refine H0.out.2.mono ?_
  rintro e w1 ⟨rfl, hb1⟩
  have H1 := Lib.hid (bthen H0.out.1 hb1)
  clear hb1
  go_wp2
  go_ret
  exact ⟨rfl, H1.out⟩
/-- What a law's walk carries: the box with its argument, the argument's lists, and what was there. -/
structure LwI (w : World) (V C : Value) (a1 a2 : Option Addr) (n m : Nat) (vs fs : List Int) (wr : World) : Prop where
  bx : C2 wr w.heap.size V C
  val : IsInts wr a1 n vs
  cha : IsInts wr a2 (m * 2) fs
  bel : Below w.heap.size w wr
theorem LwI.all {w wr wx : World} {V C : Value} {a1 a2 : Option Addr} {n m : Nat} {vs fs : List Int} (h : LwI w V C a1 a2 n m vs fs wr) (hb : Below wr.heap.size wr wx) : LwI w V C a1 a2 n m vs fs wx := ⟨h.bx.all hb, h.val.below hb, h.cha.below hb, bthen h.bel hb⟩
theorem LwI.start {w : World} {V C : Value} {a1 a2 : Option Addr} {n m : Nat} {vs fs : List Int} (h1 : IsInts w a1 n vs) (h2 : IsInts w a2 (m * 2) fs) (t : Nat) : LwI w V C a1 a2 n m vs fs (w.alloc (.cells #[V, C] t (0, 0))) :=
  have hb : Below w.heap.size w (w.alloc (.cells #[V, C] t (0, 0))) := (Below.refl _ _).alloc (Nat.le_refl _) _
  ⟨C2.new w _ _ _, h1.below hb, h2.below hb, hb⟩
set_option maxHeartbeats 3200000 in
theorem fnExactValidLaw_walk (a1 a2 : Option Addr) (n m c1 c2 : Nat) (vs fs : List Int) (w : World) (hn : n ≤ maxLen) (hm : m ≤ maxLen) (h1 : IsInts w a1 n vs) (h2 : IsInts w a2 (m * 2) fs) :
    Calls Try.prog 7 #[.agg #[.slice a1 n c1, .slice a2 m c2]] w fun e w' => e = .returned (.bool true) ∧ Below w.heap.size w w' := by
  have H0 := Lib.hid (LwI.start (V := .slice a1 n c1) (C := .slice a2 m c2) h1 h2 52)
  clear h1 h2
  by_cases hsz : n + m ≤ 1048576
  · have HZ := Lib.hid (fun w => szLaw_yes a1 a2 n m c1 c2 1048576 w (Nat.le_refl _) hsz)
    have hz0 : ¬ ((1048576 - n - m : Nat) : Int) < 0 := by omega
    obtain ⟨z, hz⟩ : ∃ z, 1048576 - n - m = z := ⟨_, rfl⟩
    rw [hz] at HZ hz0
    have HT := Lib.hid (fun w h1 h2 => toLaw_any a1 a2 n m c1 c2 vs fs w (by omega) (by omega) h1 h2)
    have HS := Lib.hid (fun w a1 a2 c1 c2 h1 h2 => specValidLaw_any a1 a2 n m c1 c2 vs fs w (by omega) (by omega) h1 h2)
    have HI := Lib.hid (fun w a1 a2 c1 c2 h1 h2 => validLaw_any a1 a2 n m c1 c2 vs fs w (by omega) (by omega) h1 h2)
    have HE := Lib.hid (fun w a1 a2 b1 b2 c1 c2 d1 d2 h1 h2 k1 k2 => eqLaw_read a1 a2 b1 b2 n m c1 c2 d1 d2 vs fs w (by omega) (by omega) h1 h2 k1 k2)
    obtain ⟨v, hv⟩ : ∃ v, lawOk vs fs n m = v := ⟨_, rfl⟩
    rw [hv] at HS HI
    clear hz hv hsz
    obtain ⟨x0, x1, x2, x3, x4⟩ := H0.out.bx
    go_enter Try.func7, Try.ntmps7
    go_wp2_with fail
    refine (HZ.out _).mono ?_
    rintro e w1 ⟨rfl, hb⟩
    have H1 := Lib.hid (H0.out.all hb)
    clear hb x0 x1 x2 x3 x4 H0
    obtain ⟨x0, x1, x2, x3, x4⟩ := H1.out.bx
    go_wp2_with fail
    refine (HT.out _ H1.out.val H1.out.cha).mono ?_
    rintro e w2 ⟨g1, k1, g2, k2, rfl, hl, hb⟩
    have H2 := Lib.hid (And.intro (H1.out.all hb) hl.ints)
    clear hb hl x0 x1 x2 x3 x4 H1
    obtain ⟨x0, x1, x2, x3, x4⟩ := H2.out.1.bx
    go_wp2_with fail
    refine (HS.out _ _ _ _ _ H2.out.2.1 H2.out.2.2).mono ?_
    rintro e w3 ⟨rfl, hb⟩
    have H3 := Lib.hid (H2.out.1.all hb)
    clear hb x0 x1 x2 x3 x4 H2
    obtain ⟨x0, x1, x2, x3, x4⟩ := H3.out.bx
    go_wp2_with fail
    refine (HT.out _ H3.out.val H3.out.cha).mono ?_
    rintro e w4 ⟨q1, l1, q2, l2, rfl, hl, hb⟩
    have hb4 : Below w4.heap.size w4 (w4.alloc (.cells #[.slice (some ⟨q1, 0, none⟩) n l1, .slice (some ⟨q2, 0, none⟩) m l2] 43)) := (Below.refl _ _).alloc (Nat.le_refl _) _
    have H4 := Lib.hid (And.intro ((H3.out.all hb).all hb4) (And.intro (hl.below hb4).ints (C2.new w4 43 (.slice (some ⟨q1, 0, none⟩) n l1) (.slice (some ⟨q2, 0, none⟩) m l2))))
    clear hb hb4 hl x0 x1 x2 x3 x4 H3
    go_wp2_with fail
    refine (HI.out _ _ _ _ _ H4.out.2.1.1 H4.out.2.1.2).mono ?_
    rintro e w5 ⟨rfl, hb⟩
    have H5 := Lib.hid (And.intro (H4.out.1.all hb) (And.intro (H4.out.2.1.1.below hb) (And.intro (H4.out.2.1.2.below hb) (H4.out.2.2.all hb))))
    clear hb H4
    obtain ⟨b4, hb4⟩ : ∃ b, w4.heap.size = b := ⟨_, rfl⟩
    rw [hb4] at H5 ⊢
    clear hb4
    obtain ⟨x0, x1, x2, x3, x4⟩ := H5.out.1.bx
    obtain ⟨y0, y1, y2, y3, y4⟩ := H5.out.2.2.2
    have H5d := Lib.hid (And.intro (H5.out.1.all (Below.refl _ w5).drew) (And.intro (H5.out.2.1.below (Below.refl _ w5).drew) (H5.out.2.2.1.below (Below.refl _ w5).drew)))
    go_wp2_with fail
    go_region_held3 (fun w' => w'.cell? ⟨b4, 0, none⟩ = some (.slice (some ⟨q1, 0, none⟩) n l1) ∧ w'.cell? ⟨b4, 1, none⟩ = some (.slice (some ⟨q2, 0, none⟩) m l2) ∧ w'.cell? ⟨w.heap.size, 0, none⟩ = some (.slice a1 n c1) ∧ w'.cell? ⟨w.heap.size, 1, none⟩ = some (.slice a2 m c2) ∧ b4 < w'.heap.size ∧ w.heap.size < w'.heap.size)
      ((repeat' refine And.intro ?_ ?_) <;> first | (go_keep; done) | (go_keep; omega))
      (first
        | (go_at_call 33; refine (HT.out _ H5d.out.1.val H5d.out.1.cha).mono ?_; rintro e w6 ⟨r1, s1, r2, s2, rfl, hl, hb6⟩; have u1 := (bcell hb6).1 b4 0 y4; have u2 := (bcell hb6).1 b4 1 y4; have u3 := (bcell hb6).1 w.heap.size 0 x4; have u4 := (bcell hb6).1 w.heap.size 1 x4; have u5 : b4 < w6.heap.size := Nat.lt_of_lt_of_le y4 hb6.size; have u6 : w.heap.size < w6.heap.size := Nat.lt_of_lt_of_le x4 hb6.size; have H6 := Lib.hid (And.intro hb6 hl.ints); clear hb6 hl)
        | (go_at_call 34; refine (HE.out _ _ _ _ _ _ _ _ _ (H5d.out.2.1.below H6.out.1) (H5d.out.2.2.below H6.out.1) H6.out.2.1 H6.out.2.2).mono ?_; rintro e w7 ⟨rfl, hb7⟩; have u7 := (bcell hb7).1 b4 0 u5; have u8 := (bcell hb7).1 b4 1 u5; have u9 := (bcell hb7).1 w.heap.size 0 u6; have u10 := (bcell hb7).1 w.heap.size 1 u6; have u11 : b4 < w7.heap.size := Nat.lt_of_lt_of_le u5 hb7.size; have u12 : w.heap.size < w7.heap.size := Nat.lt_of_lt_of_le u6 hb7.size; have H7 := Lib.hid (bthen (bthen H5d.out.1.bel H6.out.1) hb7); clear hb7))
    go_wp2
    go_ret
    exact ⟨rfl, H7.out⟩
  · have HZ := Lib.hid (fun w => szLaw_no a1 a2 n m c1 c2 1048576 w (Nat.le_refl _) hn hm (by omega))
    obtain ⟨x0, x1, x2, x3, x4⟩ := H0.out.bx
    go_enter Try.func7, Try.ntmps7
    go_wp2_with fail
    refine (HZ.out _).mono ?_
    rintro e w1 ⟨rfl, hb⟩
    have H1 := Lib.hid (H0.out.all hb)
    clear hb
    go_wp2
    go_ret
    exact ⟨rfl, H1.out.bel⟩
end Go.Proofs.Ytohmnnpophompaa

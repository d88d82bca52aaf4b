import Derived.Test.YtklnfhjgbmfilaaLawA
/- The law on valid laws. No condition. -/
namespace Go.Proofs.Ytklnfhjgbmfilaa
open Go.RowKit
set_option linter.unusedVariables false

set_option maxHeartbeats 800000 in
theorem eqLaw_read (a1 a2 b1 b2 : Option Addr) (n m c1 c2 d1 d2 : Nat) (vs fs : List Int) (w : World) (hn : n ≤ 1048576) (hm : m ≤ 1048576) (h1 : IsInts w a1 n vs) (h2 : IsInts w a2 (m * 2) fs) (k1 : IsInts w b1 n vs) (k2 : IsInts w b2 (m * 2) fs) :
    Calls Try.prog 30 #[.agg #[.slice a1 n c1, .slice a2 m c2], .agg #[.slice b1 n d1, .slice b2 m d2]] w (Ret w (.bool true)) := by
  have hA : Below w.heap.size w ((w.alloc (.cells #[.slice a1 n c1, .slice a2 m c2] 43)).alloc (.cells #[.slice b1 n d1, .slice b2 m d2] 43)) := ((Below.refl _ w).alloc (Nat.le_refl _) _).alloc (by simp) _
  have H0 := Lib.hid (And.intro (h1.below hA) (And.intro (h2.below hA) (And.intro (k1.below hA) (And.intro (k2.below hA) hA))))
  have h0a : C2 ((w.alloc (.cells #[.slice a1 n c1, .slice a2 m c2] 43)).alloc (.cells #[.slice b1 n d1, .slice b2 m d2] 43)) w.heap.size (.slice a1 n c1) (.slice a2 m c2) := (C2.new w _ _ _).all ((Below.refl _ _).alloc (Nat.le_refl _) _)
  have h0b : C2 ((w.alloc (.cells #[.slice a1 n c1, .slice a2 m c2] 43)).alloc (.cells #[.slice b1 n d1, .slice b2 m d2] 43)) (w.heap.size + 1) (.slice b1 n d1) (.slice b2 m d2) := by
    have := C2.new (w.alloc (.cells #[.slice a1 n c1, .slice a2 m c2] 43)) 43 (.slice b1 n d1) (.slice b2 m d2)
    rw [alloc_size] at this; exact this
  have HC := Lib.hid (And.intro h0a h0b)
  have HE := Lib.hid (fun w (h : IsInts w a1 n vs) (k : IsInts w b1 n vs) => eqInt64S_any a1 b1 n n c1 d1 vs vs w (by omega) h k)
  rw [decide_eq_true (rfl : vs = vs)] at HE
  clear hA h1 h2 k1 k2 h0a h0b
  go_enter Try.func30, Try.ntmps30
  go_wp2_with fail
  refine (HE.out _ H0.out.1 H0.out.2.2.1).mono ?_
  rintro e w1 ⟨rfl, hb1⟩
  have H1 := Lib.hid (And.intro (H0.out.2.1.below hb1) (And.intro (H0.out.2.2.2.1.below hb1) (bthen H0.out.2.2.2.2 hb1)))
  have HC1 := Lib.hid (And.intro (HC.out.1.all hb1) (HC.out.2.all hb1))
  obtain ⟨x0, x1, x2, x3, x4⟩ := HC1.out.1
  obtain ⟨y0, y1, y2, y3, y4⟩ := HC1.out.2
  clear hb1
  go_wp2_with fail
  refine (eqFrS_same _ _ m _ _ fs _ hm H1.out.1 H1.out.2.1).mono ?_
  rintro e w2 ⟨rfl, hb2⟩
  have H2 := Lib.hid (bthen H1.out.2.2 hb2)
  clear hb2
  go_wp2
  go_ret
  exact ⟨rfl, H2.out⟩
/-- What a law's walk carries: the box with its argument, the argument's lists, and what was there. -/
structure LwI (w : World) (V C : Value) (a1 a2 : Option Addr) (n m : Nat) (vs fs : List Int) (wr : World) : Prop where
  bx : C2 wr w.heap.size V C
  val : IsInts wr a1 n vs
  cha : IsInts wr a2 (m * 2) fs
  bel : Below w.heap.size w wr
theorem LwI.all {w wr wx : World} {V C : Value} {a1 a2 : Option Addr} {n m : Nat} {vs fs : List Int} (h : LwI w V C a1 a2 n m vs fs wr) (hb : Below wr.heap.size wr wx) : LwI w V C a1 a2 n m vs fs wx := ⟨h.bx.all hb, h.val.below hb, h.cha.below hb, bthen h.bel hb⟩
theorem LwI.start {w : World} {V C : Value} {a1 a2 : Option Addr} {n m : Nat} {vs fs : List Int} (h1 : IsInts w a1 n vs) (h2 : IsInts w a2 (m * 2) fs) (t : Nat) : LwI w V C a1 a2 n m vs fs (w.alloc (.cells #[V, C] t (0, 0))) :=
  have hb : Below w.heap.size w (w.alloc (.cells #[V, C] t (0, 0))) := (Below.refl _ _).alloc (Nat.le_refl _) _
  ⟨C2.new w _ _ _, h1.below hb, h2.below hb, hb⟩
end Go.Proofs.Ytklnfhjgbmfilaa

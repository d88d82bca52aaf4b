import Derived.Test.YtohmnnpophompaaFrN
/- When a law is valid: the program's test. No condition. -/
namespace Go.Proofs.Ytohmnnpophompaa
open Go.RowKit
set_option linter.unusedVariables false

set_option maxHeartbeats 800000 in
theorem isIncreasing_any (a : Option Addr) (n cap : Nat) (vs : List Int) (w : World) (hb : n ≤ 1048576) (hx : IsInts w a n vs) :
    Calls Try.prog 66 #[.slice a n cap] w (Ret w (.bool (incr vs))) := by
  have HX := Lib.hid hx
  have HL := Lib.hid hx.1
  clear hx
  go_enter Try.func66, Try.ntmps66
  go_wp2
  go_loopw [3] (fun i wr => ∃ k : Nat, (k + 1 ≤ n ∨ k = 0) ∧ i = .int .i64 ((k + 1 : Nat) : Int) ∧ Hid (∀ j, j < k → decide (vs.getD j 0 < vs.getD (j + 1) 0) = true) ∧ Hid (Below w.heap.size w wr)) (fun i _ => n + 1 - (intOf i).toNat)
  case atStart => exact ⟨0, Or.inr rfl, rfl, Lib.hid (fun j hj => by omega), Lib.hid (Below.refl _ _)⟩
  case round =>
    obtain ⟨k, hk, rfl, Hall, HB⟩ := hrel
    by_cases hlt : k + 1 < n
    · have hx := HX.out.below HB.out
      obtain ⟨b, off, rfl, c1⟩ := hx.at (show k < n by omega)
      obtain ⟨b1, off1, e1, c2⟩ := hx.at hlt
      simp only [Option.some.injEq, Addr.mk.injEq] at e1
      obtain ⟨rfl, rfl, _⟩ := e1
      obtain ⟨x, hxx⟩ : ∃ x, vs.getD k 0 = x := ⟨_, rfl⟩
      obtain ⟨y, hyy⟩ : ∃ y, vs.getD (k + 1) 0 = y := ⟨_, rfl⟩
      rw [hxx] at c1
      rw [hyy] at c2
      have HE := Lib.hid (And.intro hxx hyy)
      have hk0 : (0:Int) ≤ (k:Int) := by omega
      have hkl : (k:Int) < (n:Int) := by omega
      have hkl1 : (k:Int) + 1 < (n:Int) := by omega
      have hk10 : (0:Int) ≤ (k:Int) + 1 := by omega
      have hs : IntKind.i64.wrap (k:Int) = (k:Int) := IntWalk.i64_in _ (by omega)
      have hs3 : ((k:Int) + 1).toNat = k + 1 := by omega
      clear hxx hyy hx
      by_cases hin : x < y
      · have hyx : decide (y ≤ x) = false := decide_eq_false (by omega)
        have Hin := Lib.hid hin
        clear hin
        go_wp2_with fail
        go_quiet (fail)
        go_wp2
        go_roundw
        case rel =>
          refine ⟨k + 1, Or.inl (by omega), by go_num, Lib.hid (fun j hj => ?_), Lib.hid (bthen HB.out (drewN_below _ _))⟩
          by_cases h : j = k
          · subst h; rw [HE.out.1, HE.out.2]; exact decide_eq_true Hin.out
          · exact Hall.out j (by omega)
        case measure => simp [intOf]; omega
      · have hyx : decide (y ≤ x) = true := decide_eq_true (by omega)
        have Hin := Lib.hid hin
        clear hin
        go_wp2_with fail
        go_quiet (fail)
        go_wp2
        go_ret
        refine ⟨?_, bthen HB.out (drewN_below _ _)⟩
        rw [show incr vs = false from allB_no (k := k) (by have := HL.out; omega) (by rw [HE.out.1, HE.out.2]; exact decide_eq_false (by have := Hin.out; omega))]
        try rfl
    · have hni : ¬ ((k:Int) + 1 < (n:Int)) := by omega
      go_wp2
      go_ret
      refine ⟨?_, HB.out⟩
      rw [show incr vs = true from allB_of (fun j hj => Hall.out j (by have := HL.out; omega))]
      try rfl
/-- What a test of a law reads: the law in its box, and both lists. -/
structure LvI (w : World) (V C : Value) (a1 a2 : Option Addr) (n m : Nat) (vs fs : List Int) (wr : World) : Prop where
  bx : C2 wr w.heap.size V C
  val : IsInts wr a1 n vs
  cha : IsInts wr a2 (m * 2) fs
  bel : Below w.heap.size w wr
theorem LvI.all {w wr wx : World} {V C : Value} {a1 a2 : Option Addr} {n m : Nat} {vs fs : List Int} (h : LvI w V C a1 a2 n m vs fs wr) (hb : Below wr.heap.size wr wx) : LvI w V C a1 a2 n m vs fs wx := ⟨h.bx.all hb, h.val.below hb, h.cha.below hb, bthen h.bel hb⟩
theorem LvI.start {w : World} {V C : Value} {a1 a2 : Option Addr} {n m : Nat} {vs fs : List Int} (h1 : IsInts w a1 n vs) (h2 : IsInts w a2 (m * 2) fs) : LvI w V C a1 a2 n m vs fs (w.alloc (.cells #[V, C] 43)) :=
  have hb : Below w.heap.size w (w.alloc (.cells #[V, C] 43)) := (Below.refl _ _).alloc (Nat.le_refl _) _
  ⟨C2.new w _ _ _, h1.below hb, h2.below hb, hb⟩
end Go.Proofs.Ytohmnnpophompaa

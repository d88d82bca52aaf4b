import Derived.Test.YtklnfhjgbmfilaaLawB
/- The walks of the laws on functions of a law that answer with a fraction and whether there is one, given what both sides answer. -/
namespace Go.Proofs.Ytklnfhjgbmfilaa
open Go.RowKit
set_option linter.unusedVariables false

set_option maxHeartbeats 3200000 in
theorem fnExactVarianceOf_of (a1 a2 : Option Addr) (n m c1 c2 : Nat) (vs fs : List Int) (w : World) (hn : n ≤ maxLen) (hm : m ≤ maxLen) (h1 : IsInts w a1 n vs) (h2 : IsInts w a2 (m * 2) fs) (p q : Int) (ok : Bool)
    (HS0 : n + m ≤ 1048576 → ∀ (w : World) (a1 a2 : Option Addr) (c1 c2 : Nat), IsInts w a1 n vs → IsInts w a2 (m * 2) fs → Calls Try.prog 27 #[.agg #[.slice a1 n c1, .slice a2 m c2]] w fun e w' => e = .returned (.tuple #[.agg #[.int .i64 p, .int .i64 q], .bool ok]) ∧ Below w.heap.size w w')
    (HI0 : n + m ≤ 1048576 → ∀ (w : World) (a1 a2 : Option Addr) (c1 c2 : Nat), IsInts w a1 n vs → IsInts w a2 (m * 2) fs → Calls Try.prog 29 #[.agg #[.slice a1 n c1, .slice a2 m c2]] w fun e w' => e = .returned (.tuple #[.agg #[.int .i64 p, .int .i64 q], .bool ok]) ∧ Below w.heap.size w w') :
    Calls Try.prog 7 #[.agg #[.slice a1 n c1, .slice a2 m c2]] w fun e w' => e = .returned (.bool true) ∧ Below w.heap.size w w' := by
  have H0 := Lib.hid (LwI.start (V := .slice a1 n c1) (C := .slice a2 m c2) h1 h2 52)
  clear h1 h2
  by_cases hsz : n + m ≤ 1048576
  · have HZ := Lib.hid (fun w => szLaw_yes a1 a2 n m c1 c2 1048576 w (Nat.le_refl _) hsz)
    have hz0 : ¬ ((1048576 - n - m : Nat) : Int) < 0 := by omega
    obtain ⟨z, hz⟩ : ∃ z, 1048576 - n - m = z := ⟨_, rfl⟩
    rw [hz] at HZ hz0
    have HT := Lib.hid (fun w h1 h2 => toLaw_any a1 a2 n m c1 c2 vs fs w (by omega) (by omega) h1 h2)
    have HS := Lib.hid (HS0 hsz)
    have HI := Lib.hid (HI0 hsz)
    have HE := Lib.hid (fun w a1 a2 b1 b2 c1 c2 d1 d2 h1 h2 k1 k2 => eqLaw_read a1 a2 b1 b2 n m c1 c2 d1 d2 vs fs w (by omega) (by omega) h1 h2 k1 k2)
    clear hz hsz HS0 HI0
    obtain ⟨x0, x1, x2, x3, x4⟩ := H0.out.bx
    go_enter Try.func7, Try.ntmps7
    go_wp2_with fail
    refine (HZ.out _).mono ?_
    rintro e w1 ⟨rfl, hb⟩
    have H1 := Lib.hid (H0.out.all hb)
    clear hb x0 x1 x2 x3 x4 H0
    obtain ⟨x0, x1, x2, x3, x4⟩ := H1.out.bx
    go_wp2_with fail
    refine (HT.out _ H1.out.val H1.out.cha).mono ?_
    rintro e w2 ⟨g1, k1, g2, k2, rfl, hl, hb⟩
    have H2 := Lib.hid (And.intro (H1.out.all hb) hl.ints)
    clear hb hl x0 x1 x2 x3 x4 H1
    obtain ⟨x0, x1, x2, x3, x4⟩ := H2.out.1.bx
    go_wp2_with fail
    refine (HS.out _ _ _ _ _ H2.out.2.1 H2.out.2.2).mono ?_
    rintro e w3 ⟨rfl, hb⟩
    have hb3 : Below w3.heap.size w3 (w3.alloc (.cells #[.int .i64 p, .int .i64 q] 33)) := (Below.refl _ _).alloc (Nat.le_refl _) _
    have hn3 := C2.new w3 33 (.int .i64 p) (.int .i64 q)
    have H3 := Lib.hid (And.intro ((H2.out.1.all hb).all hb3) hn3)
    clear hb hb3 hn3 x0 x1 x2 x3 x4 H2
    obtain ⟨x0, x1, x2, x3, x4⟩ := H3.out.1.bx
    go_wp2_with fail
    obtain ⟨b3, hb3⟩ : ∃ b, w3.heap.size = b := ⟨_, rfl⟩
    obtain ⟨wA, hwA⟩ : ∃ w', w3.alloc (.cells #[.int .i64 p, .int .i64 q] 33) = w' := ⟨_, rfl⟩
    rw [hb3, hwA] at H3
    rw [hwA] at x0 x1 x2 x3 x4 ⊢
    try rw [hb3]
    clear hwA hb3
    refine (HT.out _ H3.out.1.val H3.out.1.cha).mono ?_
    rintro e w4 ⟨q1, l1, q2, l2, rfl, hl, hb⟩
    have hb4 : Below w4.heap.size w4 (w4.alloc (.cells #[.slice (some ⟨q1, 0, none⟩) n l1, .slice (some ⟨q2, 0, none⟩) m l2] 43)) := (Below.refl _ _).alloc (Nat.le_refl _) _
    have H4 := Lib.hid (And.intro ((H3.out.1.all hb).all hb4) (And.intro (hl.below hb4).ints (And.intro (C2.new w4 43 (.slice (some ⟨q1, 0, none⟩) n l1) (.slice (some ⟨q2, 0, none⟩) m l2)) ((H3.out.2.all hb).all hb4))))
    clear hb hb4 hl x0 x1 x2 x3 x4 H3
    go_wp2_with fail
    obtain ⟨b4, hb4⟩ : ∃ b, w4.heap.size = b := ⟨_, rfl⟩
    obtain ⟨wB, hwB⟩ : ∃ w', w4.alloc (.cells #[.slice (some ⟨q1, 0, none⟩) n l1, .slice (some ⟨q2, 0, none⟩) m l2] 43) = w' := ⟨_, rfl⟩
    rw [hb4, hwB] at H4
    rw [hwB]
    try rw [hb4]
    clear hwB hb4
    refine (HI.out _ _ _ _ _ H4.out.2.1.1 H4.out.2.1.2).mono ?_
    rintro e w5 ⟨rfl, hb⟩
    have hb5 : Below w5.heap.size w5 (w5.alloc (.cells #[.int .i64 p, .int .i64 q] 33)) := (Below.refl _ _).alloc (Nat.le_refl _) _
    have hbb := bthen hb hb5
    have hn5 := C2.new w5 33 (.int .i64 p) (.int .i64 q)
    have H5 := Lib.hid (And.intro (H4.out.1.all hbb) (And.intro (H4.out.2.1.1.below hbb) (And.intro (H4.out.2.1.2.below hbb) (And.intro (H4.out.2.2.1.all hbb) (And.intro (H4.out.2.2.2.all hbb) hn5)))))
    clear hb hb5 hbb hn5 H4
    obtain ⟨x0, x1, x2, x3, x4⟩ := H5.out.2.2.2.2.1
    obtain ⟨y0, y1, y2, y3, y4⟩ := H5.out.2.2.2.2.2
    go_wp2_with fail
    refine (eqFraction_same p q _).mono ?_
    rintro e w6 ⟨rfl, hb⟩
    have H6 := Lib.hid (And.intro (H5.out.1.all hb) (And.intro (H5.out.2.1.below hb) (And.intro (H5.out.2.2.1.below hb) (H5.out.2.2.2.1.all hb))))
    clear hb H5 x0 x1 x2 x3 x4 y0 y1 y2 y3 y4
    obtain ⟨x0, x1, x2, x3, x4⟩ := H6.out.1.bx
    obtain ⟨y0, y1, y2, y3, y4⟩ := H6.out.2.2.2
    have H6d := Lib.hid (And.intro (H6.out.1.all (Below.refl _ w6).drew) (And.intro (H6.out.2.1.below (Below.refl _ w6).drew) (H6.out.2.2.1.below (Below.refl _ w6).drew)))
    go_wp2_with fail
    go_region_held3 (fun w' => w'.cell? ⟨b4, 0, none⟩ = some (.slice (some ⟨q1, 0, none⟩) n l1) ∧ w'.cell? ⟨b4, 1, none⟩ = some (.slice (some ⟨q2, 0, none⟩) m l2) ∧ w'.cell? ⟨w.heap.size, 0, none⟩ = some (.slice a1 n c1) ∧ w'.cell? ⟨w.heap.size, 1, none⟩ = some (.slice a2 m c2) ∧ b4 < w'.heap.size ∧ w.heap.size < w'.heap.size)
      ((repeat' refine And.intro ?_ ?_) <;> first | (go_keep; done) | (go_keep; omega))
      (first
        | (go_at_call 28; refine (HT.out _ H6d.out.1.val H6d.out.1.cha).mono ?_; rintro e w7 ⟨r1, s1, r2, s2, rfl, hl, hb6⟩; have u1 := (bcell hb6).1 b4 0 y4; have u2 := (bcell hb6).1 b4 1 y4; have u3 := (bcell hb6).1 w.heap.size 0 x4; have u4 := (bcell hb6).1 w.heap.size 1 x4; have u5 : b4 < w7.heap.size := Nat.lt_of_lt_of_le y4 hb6.size; have u6 : w.heap.size < w7.heap.size := Nat.lt_of_lt_of_le x4 hb6.size; have H7 := Lib.hid (And.intro hb6 hl.ints); clear hb6 hl)
        | (go_at_call 30; refine (HE.out _ _ _ _ _ _ _ _ _ (H6d.out.2.1.below H7.out.1) (H6d.out.2.2.below H7.out.1) H7.out.2.1 H7.out.2.2).mono ?_; rintro e w8 ⟨rfl, hb7⟩; have u7 := (bcell hb7).1 b4 0 u5; have u8 := (bcell hb7).1 b4 1 u5; have u9 := (bcell hb7).1 w.heap.size 0 u6; have u10 := (bcell hb7).1 w.heap.size 1 u6; have u11 : b4 < w8.heap.size := Nat.lt_of_lt_of_le u5 hb7.size; have u12 : w.heap.size < w8.heap.size := Nat.lt_of_lt_of_le u6 hb7.size; have H8 := Lib.hid (bthen (bthen H6d.out.1.bel H7.out.1) hb7); clear hb7))
    go_wp2
    go_ret
    exact ⟨rfl, H8.out⟩
  · have HZ := Lib.hid (fun w => szLaw_no a1 a2 n m c1 c2 1048576 w (Nat.le_refl _) hn hm (by omega))
    obtain ⟨x0, x1, x2, x3, x4⟩ := H0.out.bx
    go_enter Try.func7, Try.ntmps7
    go_wp2_with fail
    refine (HZ.out _).mono ?_
    rintro e w1 ⟨rfl, hb⟩
    have H1 := Lib.hid (H0.out.all hb)
    clear hb
    go_wp2
    go_ret
    exact ⟨rfl, H1.out.bel⟩
end Go.Proofs.Ytklnfhjgbmfilaa

import Derived.Test.YtpineiocjaajnaaGreatDoorTlP
/- The levels of bits: the reference. Condition: the text is shorter than the model's greatest length. -/
namespace Go.Proofs.YtpineiocjaajnaaGreatDoor
open Go.RowKit
set_option linter.unusedVariables false

/-- What the reference's inner function gives. -/
def RetF3 (w : World) (zs : List Int) (e : Ending) (w' : World) : Prop := ∃ a c, e = .returned (.slice a 3 c) ∧ w'.ownsRow w.heap.size 44 2 (.slice a 3 c) 3 (zs.map (Value.int .i64)) ∧ Below w.heap.size w w'
set_option maxRecDepth 20000 in
set_option maxHeartbeats 1600000 in
theorem l05Levels_any (s : ByteArray) (w : World) (hok : tlOk s = true) : Calls Tryz.prog 51 #[.string s] w (RetF3 w (tlF s)) := by
  obtain ⟨n, N1, N2, N3, R, V1, F1, V2, F2, V3, F3, v1, v2, v3, p1, q1, p2, q2, p3, q3, b1, b2, b3, hC, e2⟩ := tlC s hok
  rw [e2]
  have HC := Lib.hid hC
  have HR := Lib.hid (fun w => l01Runs_any s w hC.s4)
  have HM := Lib.hid (fun w => l05Most_any s w hC.s4)
  clear hok e2 hC
  go_enter Tryz.func51, Tryz.ntmps51
  go_wp2_with fail
  rw [HC.out.hn]
  refine (HC.out.k1 _).mono ?_
  rintro e w2 ⟨a1, k1, a2, k2, rfl, hi, hb⟩
  have H2 := Lib.hid (And.intro hi (hb))
  clear hi hb
  go_wp2_with fail
  refine (l01Ones_any s _ HC.out.s4 HC.out.isb).mono ?_
  rintro e w' ⟨rfl, rfl⟩
  rw [HC.out.e1]
  go_wp2_with fail
  refine (HC.out.d1 _ _ _ _ _ H2.out.1.1 H2.out.1.2).mono ?_
  rintro e w3 ⟨rfl, hb⟩
  have hb3 : Below w3.heap.size w3 (w3.alloc (.cells #[.int .i64 p1, .int .i64 q1] 44)) := (Below.refl _ _).alloc (Nat.le_refl _) _
  have H3 := Lib.hid (And.intro (C2.new w3 44 (.int .i64 p1) (.int .i64 q1)) (bthen (bthen H2.out.2 hb) hb3))
  clear hb hb3 H2
  go_wp2_with fail
  obtain ⟨g3, hg3⟩ : ∃ b, w3.heap.size = b := ⟨_, rfl⟩
  obtain ⟨wA, hwA⟩ : ∃ w', w3.alloc (.cells #[.int .i64 p1, .int .i64 q1] 44) = w' := ⟨_, rfl⟩
  rw [hwA, hg3] at H3
  rw [hwA]
  try rw [hg3]
  clear hwA hg3
  refine (HC.out.k2 _).mono ?_
  rintro e w4 ⟨a3, k3, a4, k4, rfl, hi, hb⟩
  have H4 := Lib.hid (And.intro hi (And.intro (H3.out.1.all hb) (bthen H3.out.2 hb)))
  clear hi hb H3
  go_wp2_with fail
  refine (HR.out _).mono ?_
  rintro e w5 ⟨a5, k5, rfl, hown, hb⟩
  rw [HC.out.r]
  have H5 := Lib.hid (And.intro (And.intro (H4.out.1.1.below hb) (H4.out.1.2.below hb)) (And.intro (H4.out.2.1.all hb) (bthen H4.out.2.2 hb)))
  clear hown hb H4
  go_wp2_with fail
  rw [HC.out.e2]
  refine (HC.out.d2 _ _ _ _ _ H5.out.1.1 H5.out.1.2).mono ?_
  rintro e w6 ⟨rfl, hb⟩
  have hb6 : Below w6.heap.size w6 (w6.alloc (.cells #[.int .i64 p2, .int .i64 q2] 44)) := (Below.refl _ _).alloc (Nat.le_refl _) _
  have hbb := bthen hb hb6
  have H6 := Lib.hid (And.intro (C2.new w6 44 (.int .i64 p2) (.int .i64 q2)) (And.intro (H5.out.2.1.all hbb) (bthen H5.out.2.2 hbb)))
  clear hb hb6 hbb H5
  go_wp2_with fail
  obtain ⟨g6, hg6⟩ : ∃ b, w6.heap.size = b := ⟨_, rfl⟩
  obtain ⟨wB, hwB⟩ : ∃ w', w6.alloc (.cells #[.int .i64 p2, .int .i64 q2] 44) = w' := ⟨_, rfl⟩
  rw [hwB, hg6] at H6
  rw [hwB]
  try rw [hg6]
  clear hwB hg6
  refine (HC.out.k3 _).mono ?_
  rintro e w7 ⟨a6, k6, a7, k7, rfl, hi, hb⟩
  have H7 := Lib.hid (And.intro hi (And.intro (H6.out.1.all hb) (And.intro (H6.out.2.1.all hb) (bthen H6.out.2.2 hb))))
  clear hi hb H6
  go_wp2_with fail
  refine (HM.out _).mono ?_
  rintro e w8 ⟨rfl, hb⟩
  rw [HC.out.e3]
  have H8 := Lib.hid (And.intro (And.intro (H7.out.1.1.below hb) (H7.out.1.2.below hb)) (And.intro (H7.out.2.1.all hb) (And.intro (H7.out.2.2.1.all hb) (bthen H7.out.2.2.2 hb))))
  clear hb H7
  go_wp2_with fail
  refine (HC.out.d3 _ _ _ _ _ H8.out.1.1 H8.out.1.2).mono ?_
  rintro e w9 ⟨rfl, hb⟩
  have hb9 : Below w9.heap.size w9 (w9.alloc (.cells #[.int .i64 p3, .int .i64 q3] 44)) := (Below.refl _ _).alloc (Nat.le_refl _) _
  have hbb := bthen hb hb9
  have H9 := Lib.hid (And.intro (C2.new w9 44 (.int .i64 p3) (.int .i64 q3)) (And.intro (H8.out.2.1.all hbb) (And.intro (H8.out.2.2.1.all hbb) (bthen H8.out.2.2.2 hbb))))
  clear hb hb9 hbb H8
  obtain ⟨g9, hg9⟩ : ∃ b, w9.heap.size = b := ⟨_, rfl⟩
  obtain ⟨wC, hwC⟩ : ∃ w', w9.alloc (.cells #[.int .i64 p3, .int .i64 q3] 44) = w' := ⟨_, rfl⟩
  rw [hwC, hg9] at H9
  obtain ⟨x0, x1, x2, x3, x4⟩ := H9.out.1
  obtain ⟨y0, y1, y2, y3, y4⟩ := H9.out.2.1
  obtain ⟨z0, z1, z2, z3, z4⟩ := H9.out.2.2.1
  have HWC := Lib.hid (And.intro hwC hg9)
  clear hwC hg9
  go_upto_region 5 with fail
  rw [HWC.out.1]
  try rw [HWC.out.2]
  have HF := Lib.hid (own_three H9.out.2.2.2 p1 q1 p2 q2 p3 q3)
  clear H9 HWC
  go_wp2_with fail
  refine bodyPost_ret (v := .slice (some ⟨wC.heap.size, 0, none⟩) 3 3) (by simp [results, Tryz.results51, go_sem, *]) rfl ⟨_, _, rfl, HF.out.1, HF.out.2⟩
set_option maxRecDepth 20000 in
set_option maxHeartbeats 1600000 in
theorem specTestLevels_any (s : ByteArray) (w : World) (hs : s.size ≤ maxLen) : Calls Tryz.prog 20 #[.string s] w (RetFr w (tlOk s) (tlN s) (tlF s)) := by
  cases hok : tlOk s with
  | false =>
    have e1 : tlN s = 0 := by unfold tlN; rw [hok]; rfl
    have e2 : tlF s = [] := by unfold tlF; rw [hok]; rfl
    rw [e1, e2]
    unfold tlOk at hok
    obtain ⟨n, hn⟩ : ∃ n, s.size = n := ⟨_, rfl⟩
    cases hb : isB s with
    | false =>
      have HB := Lib.hid hb
      clear hok e1 e2 hb
      go_enter Tryz.func20, Tryz.ntmps20
      go_wp2_with fail
      refine (l01Bits_any s _ hs).mono ?_
      rintro e w1 ⟨rfl, rfl⟩
      rw [HB.out]
      go_wp2_with fail
      go_ret2
      exact retFr_no (Below.refl _ _)
    | true =>
      rw [hb, Bool.true_and, hn] at hok
      have HB := Lib.hid (And.intro hb hok)
      have HN := Lib.hid hn
      clear hok e1 e2 hb hn
      go_enter Tryz.func20, Tryz.ntmps20
      go_wp2_with fail
      refine (l01Bits_any s _ hs).mono ?_
      rintro e w1 ⟨rfl, rfl⟩
      rw [HB.out.1]
      go_wp2_with fail
      rw [HN.out]
      refine (l05Fair_any _ _).mono ?_
      rintro e w2 ⟨rfl, rfl⟩
      rw [HB.out.2]
      go_wp2_with fail
      go_ret2
      exact retFr_no (Below.refl _ _)
  | true =>
    have e1 : tlN s = 3 := by unfold tlN; rw [hok]; rfl
    rw [e1]
    have h' := hok
    unfold tlOk at h'
    simp only [Bool.and_eq_true] at h'
    obtain ⟨n, hn⟩ : ∃ n, s.size = n := ⟨_, rfl⟩
    have HL := Lib.hid (fun w => l05Levels_any s w hok)
    obtain ⟨L, hL⟩ : ∃ L, tlF s = L := ⟨_, rfl⟩
    rw [hL] at HL
    rw [hL]
    rw [hn] at h'
    have HB := Lib.hid h'
    have HN := Lib.hid hn
    clear hok e1 h' hn hL
    go_enter Tryz.func20, Tryz.ntmps20
    go_wp2_with fail
    refine (l01Bits_any s _ hs).mono ?_
    rintro e w1 ⟨rfl, rfl⟩
    rw [HB.out.1]
    go_wp2_with fail
    rw [HN.out]
    refine (l05Fair_any _ _).mono ?_
    rintro e w2 ⟨rfl, rfl⟩
    rw [HB.out.2]
    go_wp2_with fail
    refine (HL.out _).mono ?_
    rintro e w2 ⟨a, c, rfl, hown, hb⟩
    have HF := Lib.hid (And.intro hown hb)
    clear hown hb
    go_wp2_with fail
    refine bodyPost_ret (v := .tuple #[.slice a 3 c, .bool true]) (by simp [results, Tryz.results20, go_sem, *]) rfl ⟨_, _, rfl, HF.out.1, HF.out.2⟩
/-- Two lists of fractions in memory, both owned, that share nothing. -/
structure T2 (w wr : World) (V0 V1 : Value) (n : Nat) (zs ys : List Int) : Prop where
  r0 : wr.ownsRow w.heap.size 44 2 V0 n (zs.map (Value.int .i64))
  r1 : wr.ownsRow w.heap.size 44 2 V1 n (ys.map (Value.int .i64))
  dis : V0.ownBlock = none ∨ V0.ownBlock ≠ V1.ownBlock
  bel : Below w.heap.size w wr
theorem T2.start {w w1 w2 : World} {V0 V1 : Value} {n : Nat} {zs : List Int} (h0 : w1.ownsRow w.heap.size 44 2 V0 n (zs.map (Value.int .i64))) (hb0 : Below w.heap.size w w1) (h1 : w2.ownsRow w1.heap.size 44 2 V1 n (zs.map (Value.int .i64))) (hb1 : Below w1.heap.size w1 w2) : T2 w w2 V0 V1 n zs zs :=
  ⟨own_below h0 hb1, own_mono h1 hb0.size, by
    cases hv : V0.ownBlock with
    | none => exact Or.inl rfl
    | some b =>
      right
      intro e
      have k0 := (h0.lt b hv).2
      have k1 := (h1.lt b e.symm).1
      omega, bthen hb0 hb1⟩
theorem T2.below {w wr wx : World} {V0 V1 : Value} {n : Nat} {zs ys : List Int} (h : T2 w wr V0 V1 n zs ys) (hb : Below wr.heap.size wr wx) : T2 w wx V0 V1 n zs ys := ⟨own_below h.r0 hb, own_below h.r1 hb, h.dis, bthen h.bel hb⟩
theorem T2.mark {w wr wx : World} {V0 V1 : Value} {n : Nat} {zs ys xs : List Int} (h : T2 w wr V0 V1 n zs ys) (h1 : wx.ownsRow w.heap.size 44 2 V1 n (xs.map (Value.int .i64))) (hg : wr.grownBy wx V1.ownBlock) : T2 w wx V0 V1 n zs xs :=
  ⟨(Kept2.of hg (World.grownBy.refl wx none)).own h.r0 h.dis (by cases hv : V0.ownBlock with
    | none => exact Or.inl rfl
    | some b => exact Or.inr (by simp)), h1, h.dis, Kept2.below h.bel (Kept2.of hg (World.grownBy.refl wx none)) (fun b e => (h.r1.lt b e).1) (fun b e => by cases e) h.bel.size⟩
set_option maxHeartbeats 1600000 in
theorem fnExactTestLevels_walk (s : ByteArray) (w : World) (hs : s.size ≤ maxLen) :
    Calls Tryz.prog 4 #[.string s] w fun e w' => e = .returned (.bool true) ∧ Below w.heap.size w w' := by
  by_cases hbig : 1048576 < s.size
  · have : (1048576 : Int) < (s.size : Int) := by omega
    go_enter Tryz.func4, Tryz.ntmps4
    go_wp2
    go_ret
    exact ⟨rfl, Below.refl _ _⟩
  · have HI := Lib.hid (fun w => testLevels_any s w hs)
    have HS := Lib.hid (fun w => specTestLevels_any s w hs)
    have hn0 : tlN s ≤ 3 := by unfold tlN; split <;> omega
    obtain ⟨d, hd⟩ : ∃ d, tlOk s = d := ⟨_, rfl⟩
    obtain ⟨L, hL⟩ : ∃ L, tlF s = L := ⟨_, rfl⟩
    obtain ⟨n, hn⟩ : ∃ n, tlN s = n := ⟨_, rfl⟩
    rw [hL, hd, hn] at HI HS
    rw [hn] at hn0
    have h0 : ¬ (1048576 : Int) < (s.size : Int) := by omega
    clear hd hL hn hbig
    have hq0 : ¬ ((1 + n * 2 : Nat) : Int) < 0 := by omega
    obtain ⟨M, hM⟩ : ∃ M, 1 + n * 2 = M := ⟨_, rfl⟩
    have HQ := Lib.hid (fun (w : World) (a : Option Addr) (c : Nat) (h : IsInts w a (n * 2) (marks 1 (n * 2))) => heldFrS_any a n c 1 w (by omega) (by omega) h)
    have HK := Lib.hid (fun (B : Nat) (w : World) (a : Option Addr) (c : Nat) h => markFrS_any B a n c L 1 w (by omega) (by omega) h)
    rw [hM] at hq0 HQ HK
    clear hM
    go_enter Tryz.func4, Tryz.ntmps4
    go_wp2_with fail
    refine (HS.out _).mono ?_
    rintro e w1 ⟨a1, c1, rfl, hl1, hb1⟩
    go_wp2_with fail
    refine (HI.out _).mono ?_
    rintro e w2 ⟨a2, c2, rfl, hl2, hb2⟩
    have H2 := Lib.hid (T2.start hl1 hb1 hl2 hb2)
    clear hl1 hb1 hl2 hb2
    go_wp2_with fail
    refine (eqFrS_same _ _ _ _ _ L _ (by omega) (IsInts.of_own2 H2.out.r1) (IsInts.of_own2 H2.out.r0)).mono ?_
    rintro e w3 ⟨rfl, hb⟩
    have H3 := Lib.hid (H2.out.below hb)
    clear hb H2
    go_wp2_with fail
    refine (HK.out _ _ _ _ H3.out.r1).mono ?_
    rintro e w4 ⟨rfl, hm, hg⟩
    have H4 := Lib.hid (H3.out.mark hm hg)
    clear hm hg H3
    go_wp2_with fail
    refine (HQ.out _ _ _ (IsInts.of_own2 H4.out.r1)).mono ?_
    rintro e w5 ⟨rfl, hb⟩
    have H5 := Lib.hid (H4.out.below hb)
    clear hb H4
    go_wp2_with fail
    refine (HI.out _).mono ?_
    rintro e w6 ⟨a6, c6, rfl, hl6, hb6⟩
    have H6 := Lib.hid (And.intro (H5.out.below hb6) hl6)
    clear hl6 hb6 H5
    go_wp2_with fail
    refine (eqFrS_same _ _ _ _ _ L _ (by omega) (IsInts.of_own2 H6.out.2) (IsInts.of_own2 H6.out.1.r0)).mono ?_
    rintro e w7 ⟨rfl, hb⟩
    have H7 := Lib.hid (H6.out.1.below hb)
    clear hb H6
    go_wp2_with fail
    refine (HQ.out _ _ _ (IsInts.of_own2 H7.out.r1)).mono ?_
    rintro e w8 ⟨rfl, hb⟩
    have H8 := Lib.hid (H7.out.below hb)
    clear hb H7
    go_wp2_with fail
    go_ret
    exact ⟨rfl, H8.out.bel⟩
end Go.Proofs.YtpineiocjaajnaaGreatDoor

import Derived.Test.YthjndfbjalkckaaDoorGuD
/- The number that the modulus divides: program and reference. Condition: the list has 4 to 64 numbers below the modulus, which is at most 100000. -/
namespace Go.Proofs.YthjndfbjalkckaaDoor
open Go.RowKit
set_option linter.unusedVariables false

theorem gkL_le {B : Nat} {o : List Int} (h : ∀ i, (tqL o i).natAbs ≤ B) : ∀ k, gkL o k ≤ B
  | 0 => Nat.zero_le _
  | k + 1 => by
    show Nat.gcd (gkL o k) (tqL o k).natAbs ≤ B
    by_cases h0 : (tqL o k).natAbs = 0
    · rw [h0, Nat.gcd_zero_right]; exact gkL_le h k
    · exact Nat.le_trans (Nat.gcd_le_right _ (by omega)) (h k)
theorem mul_bd {x y : Int} (hx : -100000 ≤ x ∧ x ≤ 100000) (hy : -100000 ≤ y ∧ y ≤ 100000) : -10000000000 ≤ x * y ∧ x * y ≤ 10000000000 := by
  have h1 : (x * y).natAbs = x.natAbs * y.natAbs := Int.natAbs_mul x y
  have h2 : x.natAbs * y.natAbs ≤ 100000 * 100000 := Nat.mul_le_mul (by omega) (by omega)
  omega
theorem GdO.tq {m : Int} {n : Nat} {o : List Int} (h : GdO m n o) (i : Nat) : (tqL o i).natAbs ≤ 20000000000 := by
  unfold tqL
  have h1 := mul_bd (h.df (i + 2)) (h.df i)
  have h2 := mul_bd (h.df (i + 1)) (h.df (i + 1))
  omega
/-- What is answered. -/
def mfV (o : List Int) (k : Nat) : Value := .tuple #[.int .i64 (gkL o k : Nat), .bool (gkL o k != 0)]
theorem mfV_zero {o : List Int} {k : Nat} (h : gkL o k = 0) : mfV o k = .tuple #[.int .i64 0, .bool false] := by unfold mfV; rw [h]; rfl
theorem mfV_pos {o : List Int} {k G : Nat} (h : gkL o k = G) (hG : G ≠ 0) : mfV o k = .tuple #[.int .i64 (G : Nat), .bool true] := by
  unfold mfV
  rw [h]
  have : (G != 0) = true := by simpa using hG
  rw [this]
set_option maxRecDepth 20000 in
set_option maxHeartbeats 3200000 in
theorem modulusI_any (m : Int) (a : Option Addr) (n cap : Nat) (o : List Int) (w : World) (h : GdO m n o) (hx : IsInts w a n o) : Calls Tryd.prog 14 #[.slice a n cap] w fun e w' => e = .returned (mfV o (n - 3)) ∧ Below w.heap.size w w' := by
  have HO := Lib.hid (isOutputs_any m a n cap o w h hx)
  have HX := Lib.hid hx
  have HD := Lib.hid (fun w hx => differences_any m a n cap o w h hx)
  have HB := Lib.hid (fun i => h.df i)
  have HT := Lib.hid (fun i => h.tq i)
  have HGB := Lib.hid (fun k => gkL_le (fun i => h.tq i) k)
  have hn4 := h.n4
  have hn64 := h.n64
  clear h hx
  obtain ⟨N, hN⟩ : ∃ N, n = N + 4 := ⟨n - 4, by omega⟩
  subst hN
  have hl4 : ¬ (N : Int) + 4 < 4 := by omega
  go_enter Tryd.func14, Tryd.ntmps14
  go_wp2_with fail
  refine HO.out.mono ?_
  rintro e w1 ⟨rfl, hb⟩
  have HB1 := Lib.hid hb
  have HX1 := Lib.hid (HX.out.below hb)
  clear hb HO
  go_wp2_with fail
  refine (HD.out _ HX1.out).mono ?_
  rintro e w2 ⟨ad, cd, rfl, hd, hb⟩
  have HB2 := Lib.hid (bthen HB1.out hb)
  have HDD := Lib.hid (show IsInts w2 ad (N + 3) (dfR o (N + 3)) from hd)
  clear hd hb HD HB1 HX1
  rw [show N + 4 - 1 = N + 3 from rfl]
  go_wp2_with fail
  go_loopw [6, 5] (fun i v wr => ∃ (k G : Nat), k ≤ N + 1 ∧ i = .int .i64 (k : Nat) ∧ v = .int .i64 (G : Nat) ∧ Hid (gkL o k = G) ∧ Hid (Below w.heap.size w wr ∧ IsInts wr ad (N + 3) (dfR o (N + 3)))) (fun i _ _ => N + 1 - (intOf i).toNat)
  case atStart => exact ⟨0, 0, Nat.zero_le _, rfl, rfl, Lib.hid rfl, Lib.hid ⟨HB2.out, HDD.out⟩⟩
  case round =>
    clear HB2 HDD
    obtain ⟨k, G, hk, rfl, rfl, HG, HW⟩ := hrel
    by_cases hlt : k < N + 1
    · have hki : (k : Int) + 2 < (N : Int) + 3 := by omega
      have hk0 : (0 : Int) ≤ (k : Int) := by omega
      have hk1 : (0 : Int) ≤ (k : Int) + 1 := by omega
      have hk2 : (0 : Int) ≤ (k : Int) + 2 := by omega
      have hkl0 : (k : Int) < (N : Int) + 3 := by omega
      have hkl1 : (k : Int) + 1 < (N : Int) + 3 := by omega
      obtain ⟨b, off, rfl, c0⟩ := HW.out.2.at (show k < N + 3 by omega)
      obtain ⟨b1, off1, e1, c1⟩ := HW.out.2.at (show k + 1 < N + 3 by omega)
      obtain ⟨b2, off2, e2, c2⟩ := HW.out.2.at (show k + 2 < N + 3 by omega)
      simp only [Option.some.injEq, Addr.mk.injEq] at e1 e2
      obtain ⟨rfl, rfl, _⟩ := e1
      obtain ⟨rfl, rfl, _⟩ := e2
      rw [dfR_at (by omega)] at c0 c1 c2
      have q0 := HB.out k
      have q1 := HB.out (k + 1)
      have q2 := HB.out (k + 2)
      have q3 := HT.out k
      have HTQ := Lib.hid (show dfL o (k + 2) * dfL o k - dfL o (k + 1) * dfL o (k + 1) = tqL o k from rfl)
      have hGB := HGB.out k
      rw [HG.out] at hGB
      have HGN := Lib.hid (show gkL o (k + 1) = Nat.gcd G (tqL o k).natAbs by rw [← HG.out]; rfl)
      have r0 := mul_bd q2 q0
      have r1 := mul_bd q1 q1
      obtain ⟨x, hxx⟩ : ∃ x, dfL o k = x := ⟨_, rfl⟩
      obtain ⟨y, hyy⟩ : ∃ x, dfL o (k + 1) = x := ⟨_, rfl⟩
      obtain ⟨z, hzz⟩ : ∃ x, dfL o (k + 2) = x := ⟨_, rfl⟩
      obtain ⟨T, hT⟩ : ∃ x, tqL o k = x := ⟨_, rfl⟩
      rw [hxx] at c0 HTQ r0
      rw [hyy] at c1 HTQ r1
      rw [hzz] at c2 HTQ r0
      rw [hT] at HTQ HGN q3
      obtain ⟨p, hp⟩ : ∃ p, z * x = p := ⟨_, rfl⟩
      obtain ⟨q, hq⟩ : ∃ p, y * y = p := ⟨_, rfl⟩
      rw [hp] at HTQ r0
      rw [hq] at HTQ r1
      have hw1 : IntKind.i64.wrap (z * x) = p := by rw [hp]; exact IntWalk.i64_in _ (by omega)
      have hw2 : IntKind.i64.wrap (y * y) = q := by rw [hq]; exact IntWalk.i64_in _ (by omega)
      have hw3 : IntKind.i64.wrap (p - q) = T := by rw [HTQ.out]; exact IntWalk.i64_in _ (by omega)
      have HSZ := Lib.hid (fun w => sizeA_any T w (by omega) (by omega))
      obtain ⟨u, hu⟩ : ∃ u, T.natAbs = u := ⟨_, rfl⟩
      rw [hu] at HSZ HGN q3
      have HGC := Lib.hid (fun w => gcdI_any G u w (by omega) (by omega))
      have HWD := Lib.hid (fun q => (And.intro (bthen HW.out.1 (drewN_below wr q)) (HW.out.2.drewN q)))
      clear hxx hyy hzz hT hp hq hu q0 q1 q2 q3 r0 r1 hGB HTQ
      go_wp2_with fail
      go_quiet ((first | (go_at_call 35; exact Calls.quiet_of_same (HSZ.out _)) | (go_at_call 34; exact Calls.quiet_of (HGC.out _))))
      go_wp2_with fail
      go_roundw
      case rel => exact ⟨k + 1, Nat.gcd G u, by omega, by go_num, rfl, HGN, Lib.hid (HWD.out _)⟩
      case measure => simp [intOf]; omega
    · obtain rfl : k = N + 1 := by omega
      have hki : ¬ (N : Int) + 1 + 2 < (N : Int) + 3 := by omega
      have hkj : ¬ (N : Int) + 3 < (N : Int) + 3 := by omega
      by_cases hG0 : G = 0
      · subst hG0
        have HF := Lib.hid (mfV_zero HG.out)
        go_wp2_with fail
        go_ret2
        exact ⟨by rw [HF.out]; rfl, HW.out.1⟩
      · have HF := Lib.hid (mfV_pos HG.out hG0)
        have hGi : ((G : Int) != 0) = true := by simp; omega
        have hGj : ¬ (G : Int) = 0 := by omega
        go_wp2_with fail
        go_ret2
        exact ⟨by rw [HF.out]; rfl, HW.out.1⟩
set_option maxRecDepth 20000 in
set_option maxHeartbeats 3200000 in
theorem specModulus_any (m : Int) (a : Option Addr) (n cap : Nat) (o : List Int) (w : World) (h : GdO m n o) (hx : IsInts w a n o) : Calls Tryd.prog 15 #[.slice a n cap] w fun e w' => e = .returned (mfV o (n - 3)) ∧ Below w.heap.size w w' := by
  have HO := Lib.hid (l03Outputs_any m a n cap o w h hx)
  have HX := Lib.hid hx
  have HOB := Lib.hid h.bd
  have HM := Lib.hid h.m5
  have HB := Lib.hid (fun i => h.df i)
  have HT := Lib.hid (fun i => h.tq i)
  have HGB := Lib.hid (fun k => gkL_le (fun i => h.tq i) k)
  have HG0 := Lib.hid (GrowAt.start w 2)
  have hn4 := h.n4
  have hn64 := h.n64
  clear h hx
  obtain ⟨N, hN⟩ : ∃ N, n = N + 4 := ⟨n - 4, by omega⟩
  subst hN
  have hl4 : ¬ (N : Int) + 4 < 4 := by omega
  go_enter Tryd.func15, Tryd.ntmps15
  go_wp2_with fail
  refine HO.out.mono ?_
  rintro e w1 ⟨rfl, rfl⟩
  clear HO
  go_wp2_with fail
  go_loopw [5, 4] (fun i v wr => ∃ (k : Nat) (a' : Option Addr) (c' : Nat), k + 1 ≤ N + 4 ∧ i = .int .i64 ((k : Int) + 1) ∧ v = .slice a' k c' ∧ Hid (GrowAt w1 wr 2 (.slice a' k c') k ((dfR o k).map (Value.int .i64)))) (fun i _ _ => N + 4 - (intOf i).toNat)
  case atStart => exact ⟨0, _, _, by omega, rfl, rfl, HG0⟩
  case round =>
    clear HG0
    obtain ⟨k, a', c', hk, rfl, rfl, HG⟩ := hrel
    by_cases hlt : k + 1 < N + 4
    · have hki : (k : Int) + 1 < (N : Int) + 4 := by omega
      have hk1 : (k : Int) < (N : Int) + 4 := by omega
      have hk0 : (0 : Int) ≤ (k : Int) := by omega
      have hk2 : (0 : Int) ≤ (k : Int) + 1 := by omega
      have hx := HX.out.below HG.out.2
      obtain ⟨b, off, rfl, c1⟩ := hx.at (show k < N + 4 by omega)
      obtain ⟨b1, off1, e1, c2⟩ := hx.at hlt
      simp only [Option.some.injEq, Addr.mk.injEq] at e1
      obtain ⟨rfl, rfl, _⟩ := e1
      have hb1 := HOB.out k
      have hb2 := HOB.out (k + 1)
      have hm := HM.out
      have HS := Lib.hid (show dfR o (k + 1) = dfR o k ++ [o.getD (k + 1) 0 - o.getD k 0] from dfR_succ o k)
      obtain ⟨x, hxx⟩ : ∃ x, o.getD k 0 = x := ⟨_, rfl⟩
      obtain ⟨y, hyy⟩ : ∃ y, o.getD (k + 1) 0 = y := ⟨_, rfl⟩
      rw [hxx] at c1 HS hb1
      rw [hyy] at c2 HS hb2
      have hww : IntKind.i64.wrap (y - x) = y - x := IntWalk.i64_in _ (by omega)
      have hwj : IntKind.i64.wrap (k : Int) = (k : Int) := IntWalk.i64_in _ (by omega)
      have HOW := Lib.hid (HG.out.alloc (.cells #[.int .i64 (y - x)] 2)).1.drew
      clear hx hxx hyy hb1 hb2 hm
      go_wp2_with fail
      go_region_law (first
        | (refine step_ap1 rfl (.tmp 24) (.tmp 35) 32 rfl w1.heap.size 2 (.int .i64 0) 8 Tryd.underlying32 Tryd.infoI rfl _ k _ rfl HOW.out wr.heap.size (.int .i64 (y - x)) rfl (by go_simp) rfl (by omega) (by omega) (by have := HG.out.2.size; simp only [heap_drew, alloc_size]; omega) ?_; intro v' w6 hown hgrow hat))
      all_goals
        have HG3 := Lib.hid (HG.out.i64 hown (grownBy_trans (grownBy_drewN _ 1 _) hgrow))
        obtain ⟨a6, c6, rfl⟩ := own_form hown
        clear hown hgrow hat
        go_wp2_with fail
        go_roundw
        case rel => exact ⟨k + 1, a6, c6, by omega, by go_num, rfl, Lib.hid (by rw [HS.out]; exact HG3.out)⟩
        case measure => simp [intOf]; omega
    · obtain rfl : k = N + 3 := by omega
      have hki : ¬ (N : Int) + 3 + 1 < (N : Int) + 4 := by omega
      have hkj : ¬ (N : Int) + 4 < (N : Int) + 4 := by omega
      have HDD := Lib.hid (IsInts.of_own HG.out.1)
      have HB2 := Lib.hid HG.out.2
      obtain ⟨w2, hw2⟩ : ∃ w2 : World, w2 = wr := ⟨_, rfl⟩
      subst hw2
      clear HG
      go_wp2_with fail
      go_loopw [7, 6] (fun i v wr => ∃ (k G : Nat), k ≤ N + 1 ∧ i = .int .i64 (k : Nat) ∧ v = .int .i64 (G : Nat) ∧ Hid (gkL o k = G) ∧ Hid (Below w1.heap.size w1 wr ∧ IsInts wr a' (N + 3) (dfR o (N + 3)))) (fun i _ _ => N + 1 - (intOf i).toNat)
      case atStart => exact ⟨0, 0, Nat.zero_le _, rfl, rfl, Lib.hid rfl, Lib.hid ⟨HB2.out, HDD.out⟩⟩
      case round =>
        clear HB2 HDD
        obtain ⟨k, G, hk, rfl, rfl, HG, HW⟩ := hrel
        by_cases hlt : k < N + 1
        · have hki : (k : Int) + 2 < (N : Int) + 3 := by omega
          have hk0 : (0 : Int) ≤ (k : Int) := by omega
          have hk1 : (0 : Int) ≤ (k : Int) + 1 := by omega
          have hk2 : (0 : Int) ≤ (k : Int) + 2 := by omega
          have hkl0 : (k : Int) < (N : Int) + 3 := by omega
          have hkl1 : (k : Int) + 1 < (N : Int) + 3 := by omega
          obtain ⟨b, off, rfl, c0⟩ := HW.out.2.at (show k < N + 3 by omega)
          obtain ⟨b1, off1, e1, c1⟩ := HW.out.2.at (show k + 1 < N + 3 by omega)
          obtain ⟨b2, off2, e2, c2⟩ := HW.out.2.at (show k + 2 < N + 3 by omega)
          simp only [Option.some.injEq, Addr.mk.injEq] at e1 e2
          obtain ⟨rfl, rfl, _⟩ := e1
          obtain ⟨rfl, rfl, _⟩ := e2
          rw [dfR_at (by omega)] at c0 c1 c2
          have q0 := HB.out k
          have q1 := HB.out (k + 1)
          have q2 := HB.out (k + 2)
          have q3 := HT.out k
          have HTQ := Lib.hid (show dfL o (k + 2) * dfL o k - dfL o (k + 1) * dfL o (k + 1) = tqL o k from rfl)
          have hGB := HGB.out k
          rw [HG.out] at hGB
          have HGN := Lib.hid (show gkL o (k + 1) = Nat.gcd G (tqL o k).natAbs by rw [← HG.out]; rfl)
          have r0 := mul_bd q2 q0
          have r1 := mul_bd q1 q1
          obtain ⟨x, hxx⟩ : ∃ x, dfL o k = x := ⟨_, rfl⟩
          obtain ⟨y, hyy⟩ : ∃ x, dfL o (k + 1) = x := ⟨_, rfl⟩
          obtain ⟨z, hzz⟩ : ∃ x, dfL o (k + 2) = x := ⟨_, rfl⟩
          obtain ⟨T, hT⟩ : ∃ x, tqL o k = x := ⟨_, rfl⟩
          rw [hxx] at c0 HTQ r0
          rw [hyy] at c1 HTQ r1
          rw [hzz] at c2 HTQ r0
          rw [hT] at HTQ HGN q3
          obtain ⟨p, hp⟩ : ∃ p, z * x = p := ⟨_, rfl⟩
          obtain ⟨q, hq⟩ : ∃ p, y * y = p := ⟨_, rfl⟩
          rw [hp] at HTQ r0
          rw [hq] at HTQ r1
          have hw1 : IntKind.i64.wrap (z * x) = p := by rw [hp]; exact IntWalk.i64_in _ (by omega)
          have hw2 : IntKind.i64.wrap (y * y) = q := by rw [hq]; exact IntWalk.i64_in _ (by omega)
          have hw3 : IntKind.i64.wrap (p - q) = T := by rw [HTQ.out]; exact IntWalk.i64_in _ (by omega)
          have hw4 : IntKind.i64.wrap (-T) = -T := IntWalk.i64_in _ (by omega)
          have HSZ := Lib.hid (fun w => maxA_any T w (by omega) (by omega))
          obtain ⟨u, hu⟩ : ∃ u, T.natAbs = u := ⟨_, rfl⟩
          rw [hu] at HSZ HGN q3
          have HGC := Lib.hid (fun w => gcdS_any G u w (by omega) (by omega))
          have HWD := Lib.hid (fun q => (And.intro (bthen HW.out.1 (drewN_below wr q)) (HW.out.2.drewN q)))
          clear hxx hyy hzz hT hp hq hu q0 q1 q2 q3 r0 r1 hGB HTQ
          go_wp2_with fail
          go_quiet (fail)
          go_wp2_with fail
          refine (HSZ.out _).mono ?_
          rintro e w3 ⟨rfl, rfl⟩
          go_wp2_with fail
          refine (HGC.out _).mono ?_
          rintro e w3 ⟨rfl, rfl⟩
          go_wp2_with fail
          go_roundw
          case rel => exact ⟨k + 1, Nat.gcd G u, by omega, by go_num, rfl, HGN, Lib.hid (HWD.out _)⟩
          case measure => simp [intOf]; omega
        · obtain rfl : k = N + 1 := by omega
          have hki : ¬ (N : Int) + 1 + 2 < (N : Int) + 3 := by omega
          have hkj : ¬ (N : Int) + 3 < (N : Int) + 3 := by omega
          by_cases hG0 : G = 0
          · subst hG0
            have HF := Lib.hid (mfV_zero HG.out)
            go_wp2_with fail
            go_ret2
            exact ⟨by rw [HF.out]; rfl, HW.out.1⟩
          · have HF := Lib.hid (mfV_pos HG.out hG0)
            have hGi : ((G : Int) != 0) = true := by simp; omega
            have hGj : ¬ (G : Int) = 0 := by omega
            go_wp2_with fail
            go_ret2
            exact ⟨by rw [HF.out]; rfl, HW.out.1⟩
end Go.Proofs.YthjndfbjalkckaaDoor

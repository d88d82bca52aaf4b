import Derived.Test.YthjndfbjalkckaaDoorGuF
/- The factors behind outputs: the reference. Condition: the list has 4 to 64 numbers below the modulus, which is at most 100000. -/
namespace Go.Proofs.YthjndfbjalkckaaDoor
open Go.RowKit
set_option linter.unusedVariables false

theorem neg_dvd {m x y : Int} : m ∣ (x - y) ↔ m ∣ (y - x) := by
  have e : x - y = -(y - x) := by omega
  rw [e, Int.dvd_neg]
set_option maxRecDepth 40000 in
set_option maxHeartbeats 3200000 in
theorem specFactors_any (m : Int) (a : Option Addr) (n cap : Nat) (o : List Int) (w : World) (h : GdO m n o) (hx : IsInts w a n o) : Calls Tryd.prog 13 #[.int .i64 m, .slice a n cap] w (RetN w (fcO m o)) := by
  have HO := Lib.hid (l03Outputs_any m a n cap o w h hx)
  have HX := Lib.hid hx
  have HOB := Lib.hid h.bd
  have HB := Lib.hid (fun i => h.df i)
  have hn4 := h.n4
  have hn64 := h.n64
  have hm2 := h.m2
  have hm5 := h.m5
  have HR := Lib.hid (show inR m 2 100000 = true by simp only [inR, Bool.and_eq_true, decide_eq_true_eq]; omega)
  have hlen := h.len
  clear h hx
  obtain ⟨N, hN⟩ : ∃ N, n = N + 4 := ⟨n - 4, by omega⟩
  subst hN
  have HFB := Lib.hid (show ∀ f, fitB m o f = fitK m o f (N + 2) from fun f => by unfold fitB; rw [hlen]; rfl)
  have HG0 := Lib.hid (GrowAt.start w 2)
  clear hlen
  go_enter Tryd.func13, Tryd.ntmps13
  go_wp2_with fail
  refine (l00InV _ _ _ _).mono ?_
  rintro e w2 ⟨rfl, rfl⟩
  rw [HR.out]
  go_wp2_with fail
  refine HO.out.mono ?_
  rintro e w1 ⟨rfl, rfl⟩
  clear HO
  go_wp2_with fail
  go_loopw [6] (fun i wr => ∃ k : Nat, k ≤ N + 4 ∧ i = .int .i64 (k : Nat) ∧ wr = w1) (fun i _ => N + 4 - (intOf i).toNat)
  case atStart => exact ⟨0, Nat.zero_le _, rfl, rfl⟩
  case round =>
    obtain ⟨k, hk, rfl, rfl⟩ := hrel
    by_cases hlt : k < N + 4
    · have hki : (k : Int) < (N : Int) + 4 := by omega
      have hk0 : (0 : Int) ≤ (k : Int) := by omega
      obtain ⟨b, off, rfl, c1⟩ := HX.out.at hlt
      have hb := HOB.out k
      obtain ⟨x, hxx⟩ : ∃ x, o.getD k 0 = x := ⟨_, rfl⟩
      rw [hxx] at c1 hb
      have hxm : ¬ m ≤ x := by omega
      clear hxx hb
      go_wp2_with fail
      go_roundw
      case rel => exact ⟨k + 1, by omega, by go_num, trivial⟩
      case measure => simp [intOf]; omega
    · obtain rfl : k = N + 4 := by omega
      have hki : ¬ (N : Int) + 4 < (N : Int) + 4 := by omega
      go_wp2_with fail
      obtain ⟨wr0, hwr0⟩ : ∃ w0 : World, w0 = wr := ⟨_, rfl⟩
      subst hwr0
      go_loopw [8, 7] (fun i v wr => ∃ (k L : Nat) (a' : Option Addr) (c' : Nat), (k : Int) ≤ m ∧ L ≤ 64 ∧ i = .int .i64 (k : Nat) ∧ v = .slice a' L c' ∧ Hid ((fcK m o k).length = L) ∧ Hid (GrowAt wr0 wr 2 (.slice a' L c') L ((fcK m o k).map (Value.int .i64)))) (fun i _ _ => (m - intOf i).toNat)
      case atStart => exact ⟨0, 0, _, _, by omega, by omega, rfl, rfl, Lib.hid rfl, HG0⟩
      case round =>
        clear HG0
        obtain ⟨k, L, a', c', hk, hL, rfl, rfl, HL, HG⟩ := hrel
        by_cases hlt : (k : Int) < m
        · have hk0 : (0 : Int) ≤ (k : Int) := by omega
          obtain ⟨wb, hwb⟩ : ∃ wb : World, wb = wr := ⟨_, rfl⟩
          subst hwb
          have HDB := Lib.hid (HX.out.below HG.out.2)
          go_wp2_with fail
          go_loopw [10, 9] (fun i v wx => ∃ (j : Nat) (b : Bool), j ≤ N + 2 ∧ i = .int .i64 ((j : Int) + 2) ∧ v = .bool b ∧ Hid (b = fitK m o (k : Int) j) ∧ Hid (∃ q, wx = wb.drewN q)) (fun i _ _ => N + 4 - (intOf i).toNat)
          case atStart => exact ⟨0, true, Nat.zero_le _, rfl, rfl, Lib.hid rfl, Lib.hid ⟨0, rfl⟩⟩
          case round =>
            obtain ⟨j, b, hj, rfl, rfl, HBJ, HW⟩ := hrel
            obtain ⟨q0, hq0⟩ := HW.out
            have HGX := Lib.hid (show GrowAt wr0 wr 2 (.slice a' L c') L ((fcK m o k).map (Value.int .i64)) by rw [hq0]; exact HG.out.drewN q0)
            have HDX := Lib.hid (show IsInts wr a (N + 4) o by rw [hq0]; exact HDB.out.drewN q0)
            have HWN := Lib.hid (show ∀ q, ∃ q', wr.drewN q = wb.drewN q' from fun q => ⟨q0 + q, by rw [hq0]; exact drewN_two _ _ _⟩)
            clear hq0
            cases b with
            | true =>
              by_cases hlj : j < N + 2
              · have hji : (j : Int) + 2 < (N : Int) + 4 := by omega
                have hji0 : (j : Int) < (N : Int) + 4 := by omega
                have hji1 : (j : Int) + 1 < (N : Int) + 4 := by omega
                have hj0 : (0 : Int) ≤ (j : Int) := by omega
                have hj1 : (0 : Int) ≤ (j : Int) + 1 := by omega
                have hj2 : (0 : Int) ≤ (j : Int) + 2 := by omega
                obtain ⟨b, off, rfl, c0⟩ := HDX.out.at (show j < N + 4 by omega)
                obtain ⟨b1, off1, e1, c1⟩ := HDX.out.at (show j + 1 < N + 4 by omega)
                obtain ⟨b2, off2, e2, c2⟩ := HDX.out.at (show j + 2 < N + 4 by omega)
                simp only [Option.some.injEq, Addr.mk.injEq] at e1 e2
                obtain ⟨rfl, rfl, _⟩ := e1
                obtain ⟨rfl, rfl, _⟩ := e2
                have v0 := HOB.out j
                have v1 := HOB.out (j + 1)
                have v2 := HOB.out (j + 2)
                have E0 : o.getD (j + 1) 0 - o.getD j 0 = dfL o j := rfl
                have E1 : o.getD (j + 2) 0 - o.getD (j + 1) 0 = dfL o (j + 1) := rfl
                obtain ⟨z0, hz0⟩ : ∃ x, o.getD j 0 = x := ⟨_, rfl⟩
                obtain ⟨z1, hz1⟩ : ∃ x, o.getD (j + 1) 0 = x := ⟨_, rfl⟩
                obtain ⟨z2, hz2⟩ : ∃ x, o.getD (j + 2) 0 = x := ⟨_, rfl⟩
                rw [hz0] at c0 v0 E0
                rw [hz1] at c1 v1 E0 E1
                rw [hz2] at c2 v2 E1
                have q0 := HB.out j
                have q1 := HB.out (j + 1)
                have HSU := Lib.hid (fitK_succ m o (k : Int) j)
                obtain ⟨x, hxx⟩ : ∃ x, dfL o j = x := ⟨_, rfl⟩
                obtain ⟨y, hyy⟩ : ∃ x, dfL o (j + 1) = x := ⟨_, rfl⟩
                rw [hxx] at E0 q0 HSU
                rw [hyy] at E1 q1 HSU
                have r0 := fac_bd hm5 hk0 hlt q0
                have hw3 : IntKind.i64.wrap (z1 - z0) = x := by rw [E0]; exact IntWalk.i64_in _ (by omega)
                have hw4 : IntKind.i64.wrap (z2 - z1) = y := by rw [E1]; exact IntWalk.i64_in _ (by omega)
                obtain ⟨p, hp⟩ : ∃ p, (k : Int) * x = p := ⟨_, rfl⟩
                rw [hp] at r0 HSU
                have hw1 : IntKind.i64.wrap ((k : Int) * x) = p := by rw [hp]; exact IntWalk.i64_in _ (by omega)
                obtain ⟨T, hT⟩ : ∃ T, y - p = T := ⟨_, rfl⟩
                have hw2 : IntKind.i64.wrap (y - p) = T := by rw [hT]; exact IntWalk.i64_in _ (by omega)
                have HDV := Lib.hid (show m ∣ (p - y) ↔ m ∣ T by rw [← hT]; exact neg_dvd)
                have hm0 : ¬ m = 0 := by omega
                have hm1 : ¬ m = -1 := by omega
                have hj3 : IntKind.i64.wrap (j : Int) = (j : Int) := IntWalk.i64_in _ (by omega)
                have hj4 : IntKind.i64.wrap ((j : Int) + 1) = (j : Int) + 1 := IntWalk.i64_in _ (by omega)
                have hj5 : IntKind.i64.wrap ((j : Int) + 2 - 1) = (j : Int) + 1 := by rw [show (j : Int) + 2 - 1 = (j : Int) + 1 by omega]; exact hj4
                have hj6 : IntKind.i64.wrap ((j : Int) + 2 - 2) = (j : Int) := by rw [show (j : Int) + 2 - 2 = (j : Int) by omega]; exact hj3
                clear hxx hyy hp hT q0 q1 r0 hz0 hz1 hz2 v0 v1 v2 E0 E1
                by_cases hdv : m ∣ T
                · have hr : T.tmod m = 0 := tmod_dvd.2 hdv
                  have HSB := Lib.hid (show true = fitK m o (k : Int) (j + 1) by rw [HSU.out, ← HBJ.out, decide_eq_true (HDV.out.2 hdv)]; rfl)
                  clear hdv
                  go_wp2_with fail
                  go_quiet (fail)
                  go_wp2_with fail
                  go_roundw
                  case rel => exact ⟨j + 1, true, by omega, by go_num, rfl, HSB, Lib.hid (HWN.out _)⟩
                  case measure => simp [intOf]; omega
                · have hr : ¬ T.tmod m = 0 := fun e => hdv (tmod_dvd.1 e)
                  have hrb : (T.tmod m == 0) = false := by rw [beq_eq_false_iff_ne]; exact hr
                  have HSB := Lib.hid (show false = fitK m o (k : Int) (j + 1) by rw [HSU.out, decide_eq_false (fun h => hdv (HDV.out.1 h)), Bool.and_false])
                  clear hdv
                  go_wp2_with fail
                  go_quiet (fail)
                  go_wp2_with fail
                  go_roundw
                  case rel => exact ⟨j + 1, false, by omega, by go_num, rfl, HSB, Lib.hid (HWN.out _)⟩
                  case measure => simp [intOf]; omega
              · obtain rfl : j = N + 2 := by omega
                have hji : ¬ (N : Int) + 2 + 2 < (N : Int) + 4 := by omega
                have hjj : ¬ (N : Int) + 4 < (N : Int) + 4 := by omega
                have HFY := Lib.hid (fcK_yes (m := m) (o := o) (k := k) (by rw [HFB.out]; exact HBJ.out.symm))
                have hsz := HGX.out.2.size
                by_cases h64 : L = 64
                · have hLi : (L : Int) = 64 := by omega
                  have HF := Lib.hid (fcO_none (m := m) (o := o) (k := k + 1) (by omega) (by rw [HFY.out, List.length_append, HL.out]; simp; omega))
                  clear h64
                  go_wp2_with fail
                  go_ret2
                  exact RetN.none HF.out HGX.out.2
                · have hLi : ¬ (L : Int) = 64 := by omega
                  have HOW := Lib.hid (HGX.out.alloc (.cells #[.int .i64 (k : Nat)] 2)).1
                  have HLN := Lib.hid h64
                  clear h64
                  go_wp2_with (at_builtin; refine wpList_ap1 rfl (.tmp 78) (.tmp 80) 32 rfl wr0.heap.size 2 (.int .i64 0) 8 Tryd.underlying32 Tryd.infoI rfl _ L _ rfl HOW.out _ (.int .i64 (k : Nat)) rfl (by go_simp) rfl (by omega) (by omega) (by simp only [alloc_size]; omega) ?_)
                  intro v' w6 hown hgrow _
                  obtain ⟨a6, c6, rfl⟩ := own_form hown
                  have HG3 := Lib.hid (show GrowAt wr0 w6 2 (.slice a6 (L + 1) c6) (L + 1) ((fcK m o (k + 1)).map (Value.int .i64)) by rw [HFY.out]; exact HGX.out.i64 hown hgrow)
                  have HL1 := Lib.hid (show (fcK m o (k + 1)).length = L + 1 by rw [HFY.out, List.length_append, HL.out]; rfl)
                  clear hown hgrow HOW HGX
                  go_wp2_with fail
                  go_roundw
                  case rel => exact ⟨k + 1, L + 1, a6, c6, by omega, by have := HLN.out; omega, by go_num, rfl, HL1, HG3⟩
                  case measure => simp [intOf]; omega
            | false =>
              have HFY := Lib.hid (fcK_not (m := m) (o := o) (k := k) (by rw [HFB.out]; exact fitK_no HBJ.out.symm hj))
              have hlj : (j : Int) + 2 < (N : Int) + 4 ∨ ¬ (j : Int) + 2 < (N : Int) + 4 := by omega
              rcases hlj with hlj | hlj
              all_goals
                go_wp2_with fail
                go_roundw
                case rel => exact ⟨k + 1, L, a', c', by omega, hL, by go_num, rfl, Lib.hid (by rw [HFY.out]; exact HL.out), Lib.hid (by rw [HFY.out]; exact HGX.out)⟩
                case measure => simp [intOf]; omega
        · have hlt2 : ¬ (k : Int) < m := hlt
          have HF := Lib.hid (fcO_some (m := m) (o := o) (k := k) (by omega) (by rw [HL.out]; exact hL))
          go_wp2_with fail
          go_ret2
          exact RetN.some HF.out HL.out (by rw [HL.out]; exact hL) (IsInts.of_own HG.out.1) HG.out.2
end Go.Proofs.YthjndfbjalkckaaDoor

import Derived.Test.YthjndfbjalkckaaDoorGuD
/- The factors behind outputs: program and reference. Condition: the list has 4 to 64 numbers below the modulus, which is at most 100000. -/
namespace Go.Proofs.YthjndfbjalkckaaDoor
open Go.RowKit
set_option linter.unusedVariables false

theorem fac_bd {m f x : Int} (hm : m ≤ 100000) (h0 : 0 ≤ f) (h1 : f < m) (hx : -100000 ≤ x ∧ x ≤ 100000) : -10000000000 ≤ f * x ∧ f * x ≤ 10000000000 := by
  have h1 : (f * x).natAbs = f.natAbs * x.natAbs := Int.natAbs_mul f x
  have h2 : f.natAbs * x.natAbs ≤ 100000 * 100000 := Nat.mul_le_mul (by omega) (by omega)
  omega
theorem tmod_dvd {t m : Int} : t.tmod m = 0 ↔ m ∣ t := ⟨Int.dvd_of_tmod_eq_zero, Int.tmod_eq_zero_of_dvd⟩
theorem fcO_none {m : Int} {o : List Int} {k : Nat} (hk : (k : Int) ≤ m) (h : 64 < (fcK m o k).length) : fcO m o = none := by
  unfold fcO
  have := fcK_mono (m := m) (o := o) (show k ≤ m.toNat by omega)
  rw [if_neg (by omega)]
theorem fcO_some {m : Int} {o : List Int} {k : Nat} (hk : (k : Int) = m) (h : (fcK m o k).length ≤ 64) : fcO m o = some (fcK m o k) := by
  unfold fcO
  obtain rfl : m.toNat = k := by omega
  rw [if_pos h]
theorem fcK_yes {m : Int} {o : List Int} {k : Nat} (h : fitB m o (k : Int) = true) : fcK m o (k + 1) = fcK m o k ++ [(k : Int)] := by rw [fcK_succ, if_pos h]
theorem fcK_not {m : Int} {o : List Int} {k : Nat} (h : fitB m o (k : Int) = false) : fcK m o (k + 1) = fcK m o k := by rw [fcK_succ, h]; simp
set_option maxRecDepth 40000 in
set_option maxHeartbeats 3200000 in
theorem factorsI_any (m : Int) (a : Option Addr) (n cap : Nat) (o : List Int) (w : World) (h : GdO m n o) (hx : IsInts w a n o) : Calls Tryd.prog 12 #[.int .i64 m, .slice a n cap] w (RetN w (fcO m o)) := by
  have HO := Lib.hid (isOutputs_any m a n cap o w h hx)
  have HX := Lib.hid hx
  have HA := Lib.hid (fun w hx => allIn_any a n cap o 0 (m - 1) w (by have := h.n64; omega) hx)
  have HAV := Lib.hid (h.all (hi := m - 1) (Int.le_refl _))
  have HD := Lib.hid (fun w hx => differences_any m a n cap o w h hx)
  have HB := Lib.hid (fun i => h.df i)
  have hn4 := h.n4
  have hn64 := h.n64
  have hm2 := h.m2
  have hm5 := h.m5
  have HR := Lib.hid (show inR m 2 100000 = true by simp only [inR, Bool.and_eq_true, decide_eq_true_eq]; omega)
  have hwm : IntKind.i64.wrap (m - 1) = m - 1 := IntWalk.i64_in _ (by omega)
  have hlen := h.len
  clear h hx
  obtain ⟨N, hN⟩ : ∃ N, n = N + 4 := ⟨n - 4, by omega⟩
  subst hN
  have HFB := Lib.hid (show ∀ f, fitB m o f = fitK m o f (N + 2) from fun f => by unfold fitB; rw [hlen]; rfl)
  clear hlen
  go_enter Tryd.func12, Tryd.ntmps12
  go_wp2_with fail
  refine (inRangeV _ _ _ _).mono ?_
  rintro e w2 ⟨rfl, rfl⟩
  rw [HR.out]
  go_wp2_with fail
  refine HO.out.mono ?_
  rintro e w1 ⟨rfl, hb⟩
  have HB1 := Lib.hid hb
  clear hb HO
  go_wp2_with fail
  refine (HA.out _ (HX.out.below HB1.out)).mono ?_
  rintro e w3 ⟨rfl, hb⟩
  rw [HAV.out]
  have HB3 := Lib.hid (bthen HB1.out hb)
  clear hb HA HB1
  go_wp2_with fail
  refine (HD.out _ (HX.out.below HB3.out)).mono ?_
  rintro e w4 ⟨ad, cd, rfl, hd, hb⟩
  have HB4 := Lib.hid (bthen HB3.out hb)
  have HDD := Lib.hid (show IsInts w4 ad (N + 3) (dfR o (N + 3)) from hd)
  have HG0 := Lib.hid (GrowAt.start w4 2)
  clear hd hb HD HB3
  rw [show N + 4 - 1 = N + 3 from rfl]
  go_wp2_with fail
  go_loopw [30, 7] (fun i v wr => ∃ (k L : Nat) (a' : Option Addr) (c' : Nat), (k : Int) ≤ m ∧ L ≤ 64 ∧ i = .int .i64 (k : Nat) ∧ v = .slice a' L c' ∧ Hid ((fcK m o k).length = L) ∧ Hid (GrowAt w4 wr 2 (.slice a' L c') L ((fcK m o k).map (Value.int .i64)))) (fun i _ _ => (m - intOf i).toNat)
  case atStart => exact ⟨0, 0, _, _, by omega, by omega, rfl, rfl, Lib.hid rfl, HG0⟩
  case round =>
    clear HG0
    obtain ⟨k, L, a', c', hk, hL, rfl, rfl, HL, HG⟩ := hrel
    by_cases hlt : (k : Int) < m
    · have hk0 : (0 : Int) ≤ (k : Int) := by omega
      obtain ⟨wb, hwb⟩ : ∃ wb : World, wb = wr := ⟨_, rfl⟩
      subst hwb
      have HDB := Lib.hid (HDD.out.below HG.out.2)
      go_wp2_with fail
      go_loopw [10, 9] (fun i v wx => ∃ (j : Nat) (b : Bool), j ≤ N + 2 ∧ i = .int .i64 (j : Nat) ∧ v = .bool b ∧ Hid (b = fitK m o (k : Int) j) ∧ Hid (∃ q, wx = wb.drewN q)) (fun i _ _ => N + 2 - (intOf i).toNat)
      case atStart => exact ⟨0, true, Nat.zero_le _, rfl, rfl, Lib.hid rfl, Lib.hid ⟨0, rfl⟩⟩
      case round =>
        obtain ⟨j, b, hj, rfl, rfl, HBJ, HW⟩ := hrel
        obtain ⟨q0, hq0⟩ := HW.out
        have HGX := Lib.hid (show GrowAt w4 wr 2 (.slice a' L c') L ((fcK m o k).map (Value.int .i64)) by rw [hq0]; exact HG.out.drewN q0)
        have HDX := Lib.hid (show IsInts wr ad (N + 3) (dfR o (N + 3)) by rw [hq0]; exact HDB.out.drewN q0)
        have HWN := Lib.hid (show ∀ q, ∃ q', wr.drewN q = wb.drewN q' from fun q => ⟨q0 + q, by rw [hq0]; exact drewN_two _ _ _⟩)
        clear hq0
        cases b with
        | true =>
          by_cases hlj : j < N + 2
          · have hji : (j : Int) + 1 < (N : Int) + 3 := by omega
            have hji0 : (j : Int) < (N : Int) + 3 := by omega
            have hj0 : (0 : Int) ≤ (j : Int) := by omega
            have hj1 : (0 : Int) ≤ (j : Int) + 1 := by omega
            obtain ⟨b, off, rfl, c0⟩ := HDX.out.at (show j < N + 3 by omega)
            obtain ⟨b1, off1, e1, c1⟩ := HDX.out.at (show j + 1 < N + 3 by omega)
            simp only [Option.some.injEq, Addr.mk.injEq] at e1
            obtain ⟨rfl, rfl, _⟩ := e1
            rw [dfR_at (by omega)] at c0 c1
            have q0 := HB.out j
            have q1 := HB.out (j + 1)
            have HSU := Lib.hid (fitK_succ m o (k : Int) j)
            obtain ⟨x, hxx⟩ : ∃ x, dfL o j = x := ⟨_, rfl⟩
            obtain ⟨y, hyy⟩ : ∃ x, dfL o (j + 1) = x := ⟨_, rfl⟩
            rw [hxx] at c0 q0 HSU
            rw [hyy] at c1 q1 HSU
            have r0 := fac_bd hm5 hk0 hlt q0
            obtain ⟨p, hp⟩ : ∃ p, (k : Int) * x = p := ⟨_, rfl⟩
            rw [hp] at r0 HSU
            have hw1 : IntKind.i64.wrap ((k : Int) * x) = p := by rw [hp]; exact IntWalk.i64_in _ (by omega)
            have hw2 : IntKind.i64.wrap (p - y) = p - y := IntWalk.i64_in _ (by omega)
            obtain ⟨T, hT⟩ : ∃ T, p - y = T := ⟨_, rfl⟩
            rw [hT] at hw2 HSU
            have hw3 : IntKind.i64.wrap (p - y) = T := by rw [hT]; exact hw2
            have hm0 : ¬ m = 0 := by omega
            have hm1 : ¬ m = -1 := by omega
            clear hxx hyy hp hT hw2 q0 q1 r0
            by_cases hdv : m ∣ T
            · have hr : T.tmod m = 0 := tmod_dvd.2 hdv
              have HSB := Lib.hid (show true = fitK m o (k : Int) (j + 1) by rw [HSU.out, ← HBJ.out, decide_eq_true hdv]; rfl)
              clear hdv
              go_wp2_with fail
              go_quiet (fail)
              go_wp2_with fail
              go_roundw
              case rel => exact ⟨j + 1, true, by omega, by go_num, rfl, HSB, Lib.hid (HWN.out _)⟩
              case measure => simp [intOf]; omega
            · have hr : ¬ T.tmod m = 0 := fun e => hdv (tmod_dvd.1 e)
              have hrb : (T.tmod m == 0) = false := by rw [beq_eq_false_iff_ne]; exact hr
              have HSB := Lib.hid (show false = fitK m o (k : Int) (j + 1) by rw [HSU.out, decide_eq_false hdv, Bool.and_false])
              clear hdv
              go_wp2_with fail
              go_quiet (fail)
              go_wp2_with fail
              go_roundw
              case rel => exact ⟨j + 1, false, by omega, by go_num, rfl, HSB, Lib.hid (HWN.out _)⟩
              case measure => simp [intOf]; omega
          · obtain rfl : j = N + 2 := by omega
            have hji : ¬ (N : Int) + 2 + 1 < (N : Int) + 3 := by omega
            have hjj : ¬ (N : Int) + 3 < (N : Int) + 3 := by omega
            have HFY := Lib.hid (fcK_yes (m := m) (o := o) (k := k) (by rw [HFB.out]; exact HBJ.out.symm))
            have hsz := HGX.out.2.size
            have HOW := Lib.hid (HGX.out.alloc (.cells #[.int .i64 (k : Nat)] 2)).1
            go_wp2_with (at_builtin; refine wpList_ap1 rfl (.tmp 59) (.tmp 61) 32 rfl w4.heap.size 2 (.int .i64 0) 8 Tryd.underlying32 Tryd.infoI rfl _ L _ rfl HOW.out _ (.int .i64 (k : Nat)) rfl (by go_simp) rfl (by omega) (by omega) (by simp only [alloc_size]; omega) ?_)
            intro v' w6 hown hgrow _
            obtain ⟨a6, c6, rfl⟩ := own_form hown
            have HG3 := Lib.hid (show GrowAt w4 w6 2 (.slice a6 (L + 1) c6) (L + 1) ((fcK m o (k + 1)).map (Value.int .i64)) by rw [HFY.out]; exact HGX.out.i64 hown hgrow)
            have HL1 := Lib.hid (show (fcK m o (k + 1)).length = L + 1 by rw [HFY.out, List.length_append, HL.out]; rfl)
            clear hown hgrow HOW HGX
            by_cases h64 : L = 64
            · have hLi : (64 : Int) < (L : Int) + 1 := by omega
              have HF := Lib.hid (fcO_none (m := m) (o := o) (k := k + 1) (by omega) (by rw [HL1.out]; omega))
              go_wp2_with fail
              go_ret2
              exact RetN.none HF.out (bthen HB4.out HG3.out.2)
            · have hLi : ¬ (64 : Int) < (L : Int) + 1 := by omega
              go_wp2_with fail
              go_roundw
              case rel => exact ⟨k + 1, L + 1, a6, c6, by omega, by omega, by go_num, rfl, HL1, HG3⟩
              case measure => simp [intOf]; omega
        | false =>
          have HFY := Lib.hid (fcK_not (m := m) (o := o) (k := k) (by rw [HFB.out]; exact fitK_no HBJ.out.symm hj))
          have hLi : ¬ (64 : Int) < (L : Int) := by omega
          go_wp2_with fail
          go_roundw
          case rel => exact ⟨k + 1, L, a', c', by omega, hL, by go_num, rfl, Lib.hid (by rw [HFY.out]; exact HL.out), Lib.hid (by rw [HFY.out]; exact HGX.out)⟩
          case measure => simp [intOf]; omega
    · have hlt2 : ¬ (k : Int) < m := hlt
      have HF := Lib.hid (fcO_some (m := m) (o := o) (k := k) (by omega) (by rw [HL.out]; exact hL))
      go_wp2_with fail
      go_ret2
      exact RetN.some HF.out HL.out (by rw [HL.out]; exact hL) (IsInts.of_own HG.out.1) (bthen HB4.out HG.out.2)
end Go.Proofs.YthjndfbjalkckaaDoor

import Derived.Test.YtpineiocjaajnaaWvI
import Derived.Test.YtpineiocjaajnaaWvS
import Derived.Test.YtpineiocjaajnaaShL
/- The law on the shortest wave. Condition: none. -/
namespace Go.Proofs.Ytpineiocjaajnaa
open Go.RowKit
set_option linter.unusedVariables false

set_option maxRecDepth 100000 in
set_option maxHeartbeats 1600000 in
theorem specShortestWave_any (m a ad d : Int) (w : World) : Calls Try.prog 13 #[.agg #[.int .i64 m, .int .i64 a, .int .i64 ad], .int .i64 d] w (RetRd w (IsWv a m d.toNat) (swOk m a ad d) d.toNat) := by
  have hA := (Below.refl _ w).alloc (Nat.le_refl _) (.cells #[.int .i64 m, .int .i64 a, .int .i64 ad] 27)
  have H0 := Lib.hid (And.intro (G3.new w 27 m a ad) hA)
  clear hA
  cases hv : cgOk m a ad with
  | false =>
    have HV := Lib.hid (And.intro hv (show swOk m a ad d = false by unfold swOk; rw [hv]; rfl))
    clear hv
    rw [HV.out.2]
    go_enter Try.func13, Try.ntmps13
    go_wp2_with fail
    refine (l03Is_any _ _ _ _ _ H0.out.1).mono ?_
    rintro e w1 ⟨rfl, hb⟩
    rw [HV.out.1]
    have HB := Lib.hid (bthen H0.out.2 hb)
    clear hb
    go_wp2_with fail
    go_ret3
    exact retRd_no HB.out
  | true =>
    cases hd : inR d 2 4 with
    | false =>
      have HV := Lib.hid (And.intro hv (And.intro hd (show swOk m a ad d = false by unfold swOk; rw [hv, hd]; rfl)))
      clear hv hd
      rw [HV.out.2.2]
      go_enter Try.func13, Try.ntmps13
      go_wp2_with fail
      refine (l03Is_any _ _ _ _ _ H0.out.1).mono ?_
      rintro e w1 ⟨rfl, hb⟩
      rw [HV.out.1]
      have HB := Lib.hid (bthen H0.out.2 hb)
      clear hb
      go_wp2_with fail
      refine (l00InV _ _ _ _).mono ?_
      rintro e w' ⟨rfl, rfl⟩
      rw [HV.out.2.1]
      go_wp2_with fail
      go_ret3
      exact retRd_no HB.out
    | true =>
      have HV := Lib.hid (And.intro hv (And.intro hd (show swOk m a ad d = true by unfold swOk; rw [hv, hd]; rfl)))
      obtain ⟨⟨hm2, hm3⟩, ⟨ha0, ha1⟩, _⟩ := cg_bd hv
      simp only [inR, Bool.and_eq_true, decide_eq_true_eq] at hd
      obtain ⟨D, rfl⟩ := Int.eq_ofNat_of_zero_le (show 0 ≤ d by omega)
      have hD : D = 2 ∨ D = 3 ∨ D = 4 := by omega
      have hD1 : 1 ≤ D := by omega
      have hD4 : D ≤ 4 := by omega
      have hm0 : 0 < m := by omega
      have HK := Lib.hid (wvV_kind (a := a) hm0 hD)
      rw [HV.out.2.2]
      rw [show ((D : Nat) : Int).toNat = D from rfl]
      clear hv hd
      go_enter Try.func13, Try.ntmps13
      go_wp2_with fail
      refine (l03Is_any _ _ _ _ _ H0.out.1).mono ?_
      rintro e w1 ⟨rfl, hb⟩
      rw [HV.out.1]
      have HG := Lib.hid (H0.out.1.all hb)
      have HB := Lib.hid (bthen H0.out.2 hb)
      clear hb
      go_wp2_with fail
      refine (l00InV _ _ _ _).mono ?_
      rintro e w' ⟨rfl, rfl⟩
      rw [HV.out.2.1]
      go_wp2_with fail
      refine (l03Wave_any _ m a ad D _ ⟨by omega, by omega⟩ ⟨by omega, by omega⟩ hD HG.out).mono ?_
      rintro e w2 ⟨c, ac, k, rfl, hx, hb, hbest⟩
      have hlen := IsWv.hl c hbest.1
      have hsm : SmL c := sm_of_sq (m := m) (by have h := geB_sq (hbest.2 _ HK.out.1); rw [HK.out.2] at h; exact h) ⟨by omega, by omega⟩ (by omega)
      have HX := Lib.hid (And.intro hx (And.intro hsm (And.intro hbest (And.intro hlen (bthen HB.out hb)))))
      clear hx hb hbest hlen hsm
      go_wp2_with fail
      refine (squares_any _ _ _ c _ HX.out.1 HX.out.2.1).mono ?_
      rintro e w3 ⟨rfl, hb⟩
      have HY := Lib.hid (And.intro (HX.out.1.below hb) (bthen HX.out.2.2.2.2 hb))
      clear hb
      go_wp2_with fail
      go_ret3
      exact retRd_yes hD4 HX.out.2.2.1 HX.out.2.2.2.1 HY.out.1 HY.out.2
theorem shortestWave_any2 (m a ad d : Int) (w : World) : Calls Try.prog 14 #[.agg #[.int .i64 m, .int .i64 a, .int .i64 ad], .int .i64 d] w (RetOut w (IsWv a m d.toNat) (swOk m a ad d) d.toNat) := by
  refine (shortestWave_any m a ad d w).mono fun e w' h => retOut_of (fun ho => ?_) h
  have h2 : inR d 2 4 = true := by
    unfold swOk at ho
    rw [Bool.and_eq_true] at ho
    exact ho.2
  simp only [inR, Bool.and_eq_true, decide_eq_true_eq] at h2
  omega
set_option maxRecDepth 100000 in
set_option maxHeartbeats 1600000 in
theorem fnExactShortestWave_walk (m a ad d : Int) (w : World) : Calls Try.prog 4 #[.agg #[.int .i64 m, .int .i64 a, .int .i64 ad], .int .i64 d] w fun e w' => e = .returned (.bool true) ∧ Below w.heap.size w w' := by
  have HL := Lib.hid (show ∀ v, IsWv a m d.toNat v → v.length = d.toNat from IsWv.hl)
  have H0 := Lib.hid (And.intro (G3.new w 23 m a ad) ((Below.refl _ w).alloc (Nat.le_refl _) (.cells #[.int .i64 m, .int .i64 a, .int .i64 ad] 23)))
  obtain ⟨y0, y1, y2, y3⟩ := H0.out.1
  go_enter Try.func4, Try.ntmps4
  go_wp2_with fail
  refine (toCg_any _ _ _ _).mono ?_
  rintro e w1 ⟨rfl, hb⟩
  have HB1 := Lib.hid (bthen H0.out.2 hb)
  have HG1 := Lib.hid (H0.out.1.all hb)
  clear hb y0 y1 y2 y3 H0
  go_wp2_with fail
  refine (specShortestWave_any _ _ _ _ _).mono ?_
  rintro e w2 ⟨c, s, ar, n, k, rfl, hn4, hsol, hx, hb⟩
  have HS := Lib.hid hsol
  have HX := Lib.hid hx
  have HB2 := Lib.hid (bthen HB1.out hb)
  have HG2 := Lib.hid (HG1.out.all hb)
  clear hb hx hsol HG1 HB1
  obtain ⟨y0, y1, y2, y3⟩ := HG2.out
  obtain ⟨OK, hok⟩ : ∃ o, swOk m a ad d = o := ⟨_, rfl⟩
  rw [hok] at HS ⊢
  have HOK := Lib.hid hok
  clear hok
  go_wp2_with fail
  refine (toCg_any _ _ _ _).mono ?_
  rintro e w3 ⟨rfl, hb⟩
  have H3 := Lib.hid ((At.start w2).ret hb)
  have HG3 := Lib.hid (HG2.out.all hb)
  clear hb y0 y1 y2 y3
  go_wp2_with fail
  refine (shortestWave_any2 _ _ _ _ _).mono ?_
  rw [HOK.out]
  rintro e w4 ⟨c2, s2, a2, n2, k2, rfl, hn2, hsol, hx, hb⟩
  obtain ⟨rfl, rfl⟩ := hsol.uniq HL.out HS.out
  have H4 := Lib.hid (H3.out.join hb hx)
  have HG4 := Lib.hid (HG3.out.all hb)
  clear hb hx hsol HG3 H3
  have hss : (s2 != s2) = false := by simp
  have hoo : (OK != OK) = false := by simp
  go_wp2_with fail
  refine (eqInt64S_any _ _ _ _ _ _ c2 c2 _ (show n2 < _ by omega) (H4.out.1.at 0 rfl) (H4.out.arg HX.out)).mono ?_
  rw [show decide (c2 = c2) = true by simp]
  rintro e w5 ⟨rfl, hb⟩
  have H5 := Lib.hid (H4.out.ret hb)
  have HG5 := Lib.hid (HG4.out.all hb)
  clear hb HG4 H4
  go_wp2_with fail
  refine (mark_at 0 c2 _ _ _ _ _ _ _ H5.out (by omega) (by omega) (by omega) rfl).mono ?_
  rintro e w6 ⟨rfl, h6⟩
  have H6 := Lib.hid h6
  clear h6
  go_wp2_with fail
  refine (held_at 0 _ _ _ _ _ _ _ H6.out (by omega) (by omega) (by omega) rfl).mono ?_
  rintro e w7 ⟨rfl, h7⟩
  have H7 := Lib.hid h7
  clear h7
  have hge : ¬ (1 + (n2 : Int)) < 0 := by omega
  have hne : ((1 + (n2 : Int)) != (1 + (n2 : Int))) = false := by simp
  have HG7 := Lib.hid (HG2.out.all H7.out.2)
  obtain ⟨y0, y1, y2, y3⟩ := HG7.out
  go_wp2_with fail
  refine (toCg_any _ _ _ _).mono ?_
  rintro e w8 ⟨rfl, hb⟩
  have H8 := Lib.hid (H7.out.ret hb)
  clear hb y0 y1 y2 y3
  go_wp2_with fail
  refine (shortestWave_any2 _ _ _ _ _).mono ?_
  rw [HOK.out]
  rintro e w9 ⟨c3, s3, a3, n3, k3, rfl, hn3, hsol, hx, hb⟩
  obtain ⟨rfl, rfl⟩ := hsol.uniq HL.out HS.out
  have H9 := Lib.hid (H8.out.join hb hx)
  clear hb hx hsol
  go_wp2_with fail
  refine (eqInt64S_any _ _ _ _ _ _ c3 c3 _ (show n3 < _ by omega) (H9.out.1.at 0 rfl) (H9.out.arg HX.out)).mono ?_
  rw [show decide (c3 = c3) = true by simp]
  rintro e w10 ⟨rfl, hb⟩
  have H10 := Lib.hid (H9.out.ret hb)
  clear hb
  go_wp2_with fail
  refine (held_at 1 _ _ _ _ _ _ _ H10.out (by omega) (by omega) (by omega) rfl).mono ?_
  rintro e w11 ⟨rfl, h11⟩
  have H11 := Lib.hid (bthen HB2.out (h11.2))
  clear h11
  go_wp2_with fail
  go_ret
  exact ⟨rfl, H11.out⟩
end Go.Proofs.Ytpineiocjaajnaa

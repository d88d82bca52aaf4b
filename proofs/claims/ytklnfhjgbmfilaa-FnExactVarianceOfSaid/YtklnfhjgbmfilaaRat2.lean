import Derived.Test.YtklnfhjgbmfilaaRat1
/- Quotients as ratios, the fraction of a ratio, and the reference's fraction of two numbers. Conditions: numbers that an int64 holds, denominators greater than 0. -/
namespace Go.Proofs.Ytklnfhjgbmfilaa
open Go.RowKit
set_option linter.unusedVariables false

theorem dl63 {n : Nat} (h : n < 18446744073709551616) : (digs n).length < 536870912 := by
  have : (digs n).length ≤ 2 := digs_len_le (by rw [bse_eq]; simpa using h)
  omega
set_option maxRecDepth 20000 in
set_option maxHeartbeats 1600000 in
theorem quotient_any (p : Int) (q : Nat) (w : World) (h0 : -9223372036854775807 ≤ p) (h1 : p ≤ 9223372036854775807) (h2 : q < 9223372036854775808) (h3 : 0 < q) :
    Calls Try.prog 46 #[.int .i64 p, .int .i64 (q : Nat)] w (RetRat w (mkRat p q)) := by
  have HS := Lib.hid (fun (w : World) => size_any p w h0 h1)
  obtain ⟨P, hP⟩ : ∃ P, p.natAbs = P := ⟨_, rfl⟩
  have hP63 : P < 9223372036854775808 := by omega
  have hs := sgn_self p
  obtain ⟨neg, hneg⟩ : ∃ neg, decide (p < 0) = neg := ⟨_, rfl⟩
  rw [hP] at HS
  rw [hP, hneg] at hs
  obtain ⟨R, hR⟩ : ∃ R, mkRat p q = R := ⟨_, rfl⟩
  rw [hR]
  have HSg := Lib.hid (And.intro hs hR)
  clear hP hs hR
  go_enter Try.func46, Try.ntmps46
  go_wp2_with fail
  refine (HS.out _).mono ?_
  rintro e w1 ⟨rfl, rfl⟩
  go_wp2_with fail
  refine (naturalOf_any P _ hP63).mono ?_
  rintro e w1 ⟨a1, k1, rfl, _, hx1, hb1⟩
  have H1 := Lib.hid (And.intro hx1 hb1)
  clear hx1 hb1
  go_wp2_with fail
  refine (naturalOf_any q _ h2).mono ?_
  rintro e w2 ⟨a2, k2, rfl, _, hx2, hb2⟩
  have H2 := Lib.hid (And.intro (H1.out.1.below hb2) (And.intro hx2 (bthen H1.out.2 hb2)))
  clear hx2 hb2
  go_wp2_with fail
  have hlo := lowest_any neg a1 a2 k1 k2 P q _ H2.out.1 H2.out.2.1 (dl63 (by omega)) (dl63 (by omega)) h3
  rw [HSg.out.1, HSg.out.2] at hlo
  refine hlo.mono ?_
  clear hlo
  rintro e w3 ⟨b1, c1, b2, c2, rfl, hx1, hx2, hb3⟩
  have hb := bthen H2.out.2.2 hb3
  have q0 := (bcell hb).1 w.heap.size 0 (by simp)
  have q1 := (bcell hb).1 w.heap.size 1 (by simp)
  have q2 := (bcell hb).1 w.heap.size 2 (by simp)
  have f0 := (bcell hb).2 w.heap.size 0 (by simp)
  have f1 := (bcell hb).2 w.heap.size 1 (by simp)
  have f2 := (bcell hb).2 w.heap.size 2 (by simp)
  obtain ⟨sg, hsg⟩ : ∃ sg, decide (R.num < 0) = sg := ⟨_, rfl⟩
  rw [hsg]
  have H := Lib.hid (And.intro hx1 (And.intro hx2 (And.intro hb hsg)))
  clear hx1 hx2 hb hb3 hsg
  go_wp2_with fail
  obtain ⟨hx1, hx2, hb, hsg⟩ := H.out
  have hI : Ints w3 (set3 w3 w.heap.size (.bool sg) (.slice b1 (digs R.num.natAbs).length c1) (.slice b2 (digs R.den).length c2)) := ints_set3 _ _ _ (by rw [q0]; simp) (by rw [q1]; simp) (by rw [q2]; simp)
  refine bodyPost_ret (v := .agg #[.bool sg, .slice b1 (digs R.num.natAbs).length c1, .slice b2 (digs R.den).length c2]) (by simp [results, Try.results46, go_sem, *]) rfl ⟨b1, c1, b2, c2, by rw [hsg], hx1.ints hI, hx2.ints hI, ?_⟩
  exact below_set3 (bthen ((Below.refl _ w).alloc (Nat.le_refl _) _) hb) (Nat.le_refl _) _ _ _
/-- A ratio whose parts are small. -/
def fitR (r : Rat) : Bool := decide (r.num.natAbs ≤ 1000000000000000000) && decide (r.den ≤ 1000000000000000000)
def fracV (r : Rat) : Value := if fitR r then .tuple #[.agg #[.int .i64 r.num, .int .i64 (r.den : Nat)], .bool true] else .tuple #[.agg #[.int .i64 0, .int .i64 0], .bool false]
theorem fracV_yes {r : Rat} (h : fitR r = true) : fracV r = .tuple #[.agg #[.int .i64 r.num, .int .i64 (r.den : Nat)], .bool true] := by unfold fracV; rw [if_pos h]
theorem fracV_no {r : Rat} (h : fitR r = false) : fracV r = .tuple #[.agg #[.int .i64 0, .int .i64 0], .bool false] := by unfold fracV; rw [if_neg (by rw [h]; simp)]
set_option maxRecDepth 20000 in
set_option maxHeartbeats 1600000 in
theorem fraction_any (r : Rat) (a1 a2 : Option Addr) (c1 c2 : Nat) (w : World) (hx1 : IsU32s w a1 (digs r.num.natAbs).length (digs r.num.natAbs)) (hx2 : IsU32s w a2 (digs r.den).length (digs r.den)) (hb1 : (digs r.num.natAbs).length < 536870912) (hb2 : (digs r.den).length < 536870912) :
    Calls Try.prog 49 #[.agg #[.bool (decide (r.num < 0)), .slice a1 (digs r.num.natAbs).length c1, .slice a2 (digs r.den).length c2]] w fun e w' => e = .returned (fracV r) ∧ Below w.heap.size w w' := by
  have hs := sgn_self r.num
  obtain ⟨sg, hsg⟩ : ∃ sg, decide (r.num < 0) = sg := ⟨_, rfl⟩
  rw [hsg] at hs ⊢
  have hA : Below w.heap.size w ((w.alloc (.cells #[.bool sg, .slice a1 (digs r.num.natAbs).length c1, .slice a2 (digs r.den).length c2] 79)).alloc (.cells #[.int .i64 0, .int .i64 0] 33)) := ((Below.refl _ w).alloc (Nat.le_refl _) _).alloc (by simp) _
  have HA := Lib.hid hA
  have HC1 := Lib.hid (natSmall_any a1 c1 r.num.natAbs _ (hx1.below hA) (by omega))
  have HC2 := Lib.hid (natSmall_any a2 c2 r.den _ (hx2.below hA) (by omega))
  obtain ⟨P, hP⟩ : ∃ P, r.num.natAbs = P := ⟨_, rfl⟩
  obtain ⟨Q, hQ⟩ : ∃ Q, r.den = Q := ⟨_, rfl⟩
  have hf1 : fitR r = (decide (P ≤ 1000000000000000000) && decide (Q ≤ 1000000000000000000)) := by unfold fitR; rw [hP, hQ]
  rw [hP] at HC1 HC2 hs ⊢
  rw [hQ] at HC1 HC2 ⊢
  have HF := Lib.hid (And.intro hf1 (And.intro hs hQ))
  rw [hP, hQ] at hA HA
  clear hA hx1 hx2 hb1 hb2 hs hP hQ hf1 hsg
  go_enter Try.func49, Try.ntmps49
  go_wp2_with fail
  refine HC1.out.mono ?_
  rintro e w1 ⟨v1, hv1, rfl, rfl⟩
  go_wp2_with fail
  refine HC2.out.mono ?_
  rintro e w1 ⟨v2, hv2, rfl, rfl⟩
  by_cases hp : P ≤ 1000000000000000000
  · by_cases hq : Q ≤ 1000000000000000000
    · obtain rfl := hv1 hp
      obtain rfl := hv2 hq
      have e1 : decide (P ≤ 1000000000000000000) = true := decide_eq_true hp
      have e2 : decide (Q ≤ 1000000000000000000) = true := decide_eq_true hq
      have hfit : fitR r = true := by rw [HF.out.1, e1, e2]; rfl
      have HFit := Lib.hid hfit
      rw [e1, e2]
      clear hv1 hv2 hfit
      cases sg with
      | true =>
        go_wp2_with fail
        refine bodyPost_ret (v := .tuple #[.agg #[.int .i64 (-(P : Int)), .int .i64 (Q : Nat)], .bool true]) (by simp [results, Try.results49, go_sem, *]) rfl ⟨?_, ?_⟩
        · rw [fracV_yes HFit.out, HF.out.2.2, ← HF.out.2.1]; rfl
        · exact ((Below.refl _ w).alloc (Nat.le_refl _) _).alloc (by simp) _
      | false =>
        go_wp2_with fail
        refine bodyPost_ret (v := .tuple #[.agg #[.int .i64 (P : Int), .int .i64 (Q : Nat)], .bool true]) (by simp [results, Try.results49, go_sem, *]) rfl ⟨?_, ?_⟩
        · rw [fracV_yes HFit.out, HF.out.2.2, ← HF.out.2.1]; rfl
        · exact ((Below.refl _ w).alloc (Nat.le_refl _) _).alloc (by simp) _
    · have e1 : decide (P ≤ 1000000000000000000) = true := decide_eq_true hp
      have e2 : decide (Q ≤ 1000000000000000000) = false := decide_eq_false hq
      have hfit : fitR r = false := by rw [HF.out.1, e1, e2]; rfl
      have HFit := Lib.hid hfit
      rw [e1, e2]
      clear hv1 hv2 hfit
      go_wp2_with fail
      refine bodyPost_ret (v := .tuple #[.agg #[.int .i64 0, .int .i64 0], .bool false]) (by simp [results, Try.results49, go_sem, *]) rfl ⟨?_, ?_⟩
      · rw [fracV_no HFit.out]
      · exact ((Below.refl _ w).alloc (Nat.le_refl _) _).alloc (by simp) _
  · have e1 : decide (P ≤ 1000000000000000000) = false := decide_eq_false hp
    have hfit : fitR r = false := by rw [HF.out.1, e1]; rfl
    have HFit := Lib.hid hfit
    rw [e1]
    clear hv1 hv2 hfit
    go_wp2_with fail
    refine bodyPost_ret (v := .tuple #[.agg #[.int .i64 0, .int .i64 0], .bool false]) (by simp [results, Try.results49, go_sem, *]) rfl ⟨?_, ?_⟩
    · rw [fracV_no HFit.out]
    · exact ((Below.refl _ w).alloc (Nat.le_refl _) _).alloc (by simp) _
set_option maxHeartbeats 800000 in
theorem l01Gcd_any (a b : Nat) (w : World) (ha : a < 9223372036854775808) (hb : b < 9223372036854775808) :
    Calls Try.prog 86 #[.int .i64 (a : Nat), .int .i64 (b : Nat)] w fun e w' => e = .returned (.int .i64 (Nat.gcd a b : Nat)) ∧ w = w' := by
  obtain ⟨G, hG⟩ : ∃ G, Nat.gcd a b = G := ⟨_, rfl⟩
  rw [hG]
  have HG := Lib.hid hG
  clear hG
  go_enter Try.func86, Try.ntmps86
  go_wp2
  go_loop [0, 1] (fun v0 v1 => ∃ x y : Nat, v0 = .int .i64 (x : Nat) ∧ v1 = .int .i64 (y : Nat) ∧ x < 9223372036854775808 ∧ y < 9223372036854775808 ∧ Hid (Nat.gcd x y = G)) (fun _ v1 => (intOf v1).toNat)
  case atStart => exact ⟨a, b, rfl, rfl, ha, hb, HG⟩
  case round =>
    obtain ⟨x, y, rfl, rfl, hx, hy, HR⟩ := hrel
    by_cases h0 : 0 < y
    · have h1 : (0 : Int) < (y : Int) := by omega
      have hr : (x : Int) % (y : Int) = ((x % y : Nat) : Int) := by rw [Int.natCast_emod]
      have hlt := Nat.mod_lt x h0
      obtain ⟨r, hr'⟩ : ∃ r, x % y = r := ⟨_, rfl⟩
      rw [hr'] at hr hlt
      have HN := Lib.hid (show Nat.gcd y r = G by rw [← HR.out, ← hr', Nat.gcd_comm y, ← Nat.gcd_rec, Nat.gcd_comm])
      clear hr'
      go_wp2
      go_round
      case rel => exact ⟨y, r, rfl, by first | rfl | rw [hr], hy, by omega, HN⟩
      case measure => simp [intOf]; omega
    · obtain rfl : y = 0 := by omega
      have HX := Lib.hid (show x = G by rw [← HR.out, Nat.gcd_zero_right])
      go_wp2
      go_ret
      exact ⟨by rw [← HX.out]; rfl, rfl⟩
theorem l00Max_abs (a : Int) (w : World) (h0 : -9223372036854775807 ≤ a) (h1 : a ≤ 9223372036854775807) : Calls Try.prog 87 #[.int .i64 a, .int .i64 (-a)] w fun e w' => e = .returned (.int .i64 (a.natAbs : Nat)) ∧ w = w' := by
  by_cases h : -a < a
  · have e : (a.natAbs : Int) = a := by omega
    rw [e]
    go_enter Try.func87, Try.ntmps87
    go_wp2
    go_ret
    exact ⟨rfl, rfl⟩
  · have e : (a.natAbs : Int) = -a := by omega
    rw [e]
    go_enter Try.func87, Try.ntmps87
    go_wp2
    go_ret
    exact ⟨rfl, rfl⟩
set_option maxHeartbeats 1600000 in
theorem l01FMake_any (p : Int) (q : Nat) (w : World) (h0 : -9223372036854775807 ≤ p) (h1 : p ≤ 9223372036854775807) (h2 : q < 9223372036854775808) (h3 : 0 < q) :
    Calls Try.prog 41 #[.int .i64 p, .int .i64 (q : Nat)] w fun e w' => e = .returned (.agg #[.int .i64 (mkRat p q).num, .int .i64 ((mkRat p q).den : Nat)]) ∧ Below w.heap.size w w' := by
  have hn := mk_num (n := p) (Nat.ne_of_gt h3)
  have hd := mk_den (n := p) (Nat.ne_of_gt h3)
  have hgp := Nat.gcd_pos_of_pos_right p.natAbs h3
  have hgl : Nat.gcd p.natAbs q ≤ q := Nat.gcd_le_right _ h3
  have HM := Lib.hid (fun (w : World) => l00Max_abs p w h0 h1)
  have HG := Lib.hid (fun (w : World) => l01Gcd_any p.natAbs q w (by omega) h2)
  have hdv : ((p.natAbs.gcd q : Nat) : Int) ∣ p := Int.ofNat_dvd_left.2 (Nat.gcd_dvd_left _ _)
  have htd := Int.tdiv_eq_ediv_of_dvd hdv
  obtain ⟨G, hG⟩ : ∃ G, Nat.gcd p.natAbs q = G := ⟨_, rfl⟩
  rw [hG] at hn hd hgp hgl HG htd
  have hdc : (q : Int) / (G : Int) = ((q / G : Nat) : Int) := by rw [Int.natCast_ediv]
  obtain ⟨X, hX⟩ : ∃ X, p / (G : Int) = X := ⟨_, rfl⟩
  obtain ⟨Y, hY⟩ : ∃ Y, q / G = Y := ⟨_, rfl⟩
  rw [hX] at hn htd
  rw [hY] at hd hdc
  have hXb : X.natAbs ≤ p.natAbs := by
    rw [← hX, Int.natAbs_ediv_of_dvd (by rw [← hG]; exact hdv)]
    exact Nat.div_le_self _ _
  have hYb : Y ≤ q := by rw [← hY]; exact Nat.div_le_self _ _
  have HN := Lib.hid (And.intro hn hd)
  have hg0 : ((G : Int) == 0) = false := by rw [beq_eq_false_iff_ne]; omega
  have hg1 : (0 : Int) < (G : Int) := by omega
  have hq1 : ¬ (q : Int) < 0 := by omega
  have hxw : IntKind.i64.wrap X = X := IntWalk.i64_in _ (by omega)
  have hyw : IntKind.i64.wrap (Y : Int) = (Y : Int) := IntWalk.i64_in _ (by omega)
  have hqt : (q : Int).tdiv (G : Int) = (Y : Int) := by rw [Int.tdiv_eq_ediv_of_nonneg (by omega), hdc]
  clear hn hd hdv hG hX hY hgp hgl
  go_enter Try.func41, Try.ntmps41
  go_wp2_with fail
  refine (HM.out _).mono ?_
  rintro e w1 ⟨rfl, rfl⟩
  go_wp2_with fail
  refine (HG.out _).mono ?_
  rintro e w1 ⟨rfl, rfl⟩
  go_wp2_with fail
  go_region
  all_goals (try go_wp2_with fail)
  refine bodyPost_ret (v := .agg #[.int .i64 X, .int .i64 (Y : Nat)]) (by simp [results, Try.results41, go_sem]) rfl ⟨by rw [HN.out.1, HN.out.2], ((Below.refl _ w).alloc (Nat.le_refl _) _).drew⟩
end Go.Proofs.Ytklnfhjgbmfilaa

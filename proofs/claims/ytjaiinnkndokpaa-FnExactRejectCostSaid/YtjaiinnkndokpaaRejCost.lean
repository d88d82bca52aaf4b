import Derived.Test.YtjaiinnkndokpaaRat2
import Derived.Test.YtjaiinnkndokpaaDeg
/- The cost of drawing by rejection: the law FnExactRejectCost. No condition. -/
namespace Go.Proofs.Ytjaiinnkndokpaa
open Go.RowKit
set_option linter.unusedVariables false

/-- The number of bits that are drawn for a number below n. -/
def WidthIs (n : Int) (k : Nat) : Prop := k ≤ 20 ∧ n ≤ (2 : Int) ^ k ∧ (k = 0 ∨ (2 : Int) ^ (k - 1) < n)
theorem width_exists (n : Int) (h2 : n ≤ 1000000) : ∃ k, WidthIs n k := by
  have key : ∀ m : Nat, n ≤ (2 : Int) ^ m → m ≤ 20 → ∃ k, WidthIs n k := by
    intro m
    induction m with
    | zero => intro h _; exact ⟨0, by omega, h, Or.inl rfl⟩
    | succ m ih =>
      intro h hm
      by_cases hc : n ≤ (2 : Int) ^ m
      · exact ih hc (by omega)
      · exact ⟨m + 1, hm, h, Or.inr (by simpa using hc)⟩
  exact key 20 (by have : (2 : Int) ^ 20 = 1048576 := by decide
                   omega) (by omega)
theorem bitsFor_any (n : Int) (k : Nat) (w : World) (h1 : 1 ≤ n) (h2 : n ≤ 1000000) (hk : WidthIs n k) :
    Calls Try.prog 54 #[.int .i64 n] w fun e w' => e = .returned (.int .i64 (k : Nat)) ∧ w = w' := by
  obtain ⟨ha, hb, hc⟩ := hk
  have e2 : (2 : Int) ^ (k + 1) = 2 * (2 : Int) ^ k := by rw [Int.pow_succ]; omega
  have e1 : (2 : Int) ^ k ≤ 2 * n - 1 := by
    rcases hc with rfl | hc
    · simp; omega
    · obtain ⟨m, rfl⟩ : ∃ m, k = m + 1 := by
        cases k with
        | zero => exact ⟨0, by simp at hc; omega⟩
        | succ m => exact ⟨m, rfl⟩
      have e3 : (2 : Int) ^ (m + 1) = 2 * (2 : Int) ^ m := by rw [Int.pow_succ]; omega
      simp only [Nat.add_sub_cancel] at hc
      omega
  have HD := Lib.hid (degree_at k (2 * n - 1) w (by omega) e1 (by omega) (by omega))
  clear e1 e2 ha hb hc
  go_enter Try.func54, Try.ntmps54
  go_wp2_with fail
  refine HD.out.mono ?_
  rintro e w' ⟨rfl, rfl⟩
  go_wp2
  go_ret
  exact ⟨rfl, rfl⟩
theorem l06Width_any (n : Int) (k : Nat) (w : World) (h1 : 1 ≤ n) (h2 : n ≤ 1000000) (hk : WidthIs n k) :
    Calls Try.prog 51 #[.int .i64 n] w fun e w' => e = .returned (.int .i64 (k : Nat)) ∧ w = w' := by
  have HK := Lib.hid hk
  have hk20 := hk.1
  clear hk
  go_enter Try.func51, Try.ntmps51
  go_wp2
  go_loop [3] (fun i => ∃ j : Nat, j ≤ k ∧ i = .int .i64 j) (fun i => k - (intOf i).toNat)
  case atStart => exact ⟨0, by omega, rfl⟩
  case round =>
    obtain ⟨j, hj, rfl⟩ := hrel
    have hpw := pow_wrap j (by omega)
    by_cases hlt : j < k
    · have hlow : (2 : Int) ^ j < n := by
        obtain ⟨_, _, hc⟩ := HK.out
        have : (2 : Int) ^ j ≤ (2 : Int) ^ (k - 1) := by exact_mod_cast Nat.pow_le_pow_right (show 0 < 2 by decide) (show j ≤ k - 1 by omega)
        omega
      go_wp2
      go_round
      case rel => exact ⟨j + 1, by omega, by go_num⟩
      case measure => simp [intOf]; omega
    · have hjk : j = k := by omega
      subst hjk
      have hhi : ¬ (2 : Int) ^ j < n := by have := HK.out.2.1; omega
      go_wp2
      go_ret
      exact ⟨rfl, rfl⟩
theorem isDrawn_any (n : Int) (w : World) : Calls Try.prog 53 #[.int .i64 n] w fun e w' => e = .returned (.bool (inR n 1 1000000)) ∧ w = w' := by
  go_enter Try.func53, Try.ntmps53
  go_wp2_with fail
  refine (inRange_any _ _ _ _).mono ?_
  rintro e w' ⟨rfl, rfl⟩
  go_wp2_with fail
  go_ret
  exact ⟨rfl, rfl⟩
theorem l06Number_any (n : Int) (w : World) : Calls Try.prog 50 #[.int .i64 n] w fun e w' => e = .returned (.bool (inR n 1 1000000)) ∧ w = w' := by
  go_enter Try.func50, Try.ntmps50
  go_wp2_with fail
  refine (l00In_any _ _ _ _).mono ?_
  rintro e w' ⟨rfl, rfl⟩
  go_wp2_with fail
  go_ret
  exact ⟨rfl, rfl⟩

set_option maxHeartbeats 400000 in
theorem eqFraction_same (p q : Int) (w : World) : Calls Try.prog 17 #[.agg #[.int .i64 p, .int .i64 q], .agg #[.int .i64 p, .int .i64 q]] w fun e w' => e = .returned (.bool true) ∧ Below w.heap.size w w' := by
  go_enter Try.func17, Try.ntmps17
  go_wp2
  go_ret
  exact ⟨rfl, ((Below.refl _ w).alloc (Nat.le_refl _) _).alloc (by simp) _⟩
/-- What both costs are. -/
def costR (n : Int) (k : Nat) : Rat := mkRat ((k : Int) * (2 : Int) ^ k) n.toNat
def costV (n : Int) (k : Nat) : Value := if inR n 1 1000000 then .tuple #[.agg #[.int .i64 (costR n k).num, .int .i64 ((costR n k).den : Nat)], .bool true] else .tuple #[.agg #[.int .i64 0, .int .i64 0], .bool false]
theorem cost_num {k : Nat} (hk : k ≤ 20) : ∃ M : Nat, (k : Int) * (2 : Int) ^ k = (M : Int) ∧ M ≤ 20971520 := by
  refine ⟨k * 2 ^ k, by simp, ?_⟩
  have : 2 ^ k ≤ 2 ^ 20 := Nat.pow_le_pow_right (by omega) hk
  calc k * 2 ^ k ≤ 20 * 2 ^ 20 := Nat.mul_le_mul hk this
    _ = 20971520 := by decide
theorem fit_small {p : Int} {q : Nat} (hq : 0 < q) (h1 : p.natAbs ≤ 1000000000000000000) (h2 : q ≤ 1000000000000000000) : fitR (mkRat p q) = true := by
  unfold fitR
  rw [mk_abs (Nat.ne_of_gt hq), mk_den (Nat.ne_of_gt hq)]
  have e1 : p.natAbs / p.natAbs.gcd q ≤ p.natAbs := Nat.div_le_self _ _
  have e2 : q / p.natAbs.gcd q ≤ q := Nat.div_le_self _ _
  rw [decide_eq_true (by omega), decide_eq_true (by omega)]
  rfl
theorem num_den_small {p : Int} {q : Nat} (hq : 0 < q) (h1 : p.natAbs < 18446744073709551616) (h2 : q < 18446744073709551616) : (digs (mkRat p q).num.natAbs).length < 536870912 ∧ (digs (mkRat p q).den).length < 536870912 := by
  rw [mk_abs (Nat.ne_of_gt hq), mk_den (Nat.ne_of_gt hq)]
  have e1 : p.natAbs / p.natAbs.gcd q ≤ p.natAbs := Nat.div_le_self _ _
  have e2 : q / p.natAbs.gcd q ≤ q := Nat.div_le_self _ _
  exact ⟨dl63 (by omega), dl63 (by omega)⟩
set_option maxRecDepth 20000 in
set_option maxHeartbeats 800000 in
theorem rejectCost_any (n : Int) (k : Nat) (w : World) (hk : inR n 1 1000000 = true → WidthIs n k) :
    Calls Try.prog 16 #[.int .i64 n] w fun e w' => e = .returned (costV n k) ∧ Below w.heap.size w w' := by
  cases hr : inR n 1 1000000 with
  | false =>
    have HR := Lib.hid (And.intro hr (show costV n k = .tuple #[.agg #[.int .i64 0, .int .i64 0], .bool false] by unfold costV; rw [hr]; rfl))
    clear hr hk
    go_enter Try.func16, Try.ntmps16
    go_wp2_with fail
    refine (isDrawn_any _ _).mono ?_
    rintro e w1 ⟨rfl, rfl⟩
    rw [HR.out.1]
    go_wp2_with fail
    refine bodyPost_ret (v := .tuple #[.agg #[.int .i64 0, .int .i64 0], .bool false]) (by simp [results, Try.results16, go_sem]) rfl ⟨by rw [HR.out.2], (Below.refl _ w).alloc (Nat.le_refl _) _⟩
  | true =>
    have hw := hk hr
    obtain ⟨M, hM, hMb⟩ := cost_num hw.1
    have HR := Lib.hid (And.intro hr (And.intro hw (show costV n k = .tuple #[.agg #[.int .i64 (costR n k).num, .int .i64 ((costR n k).den : Nat)], .bool true] by unfold costV; rw [hr]; rfl)))
    simp only [inR, Bool.and_eq_true, decide_eq_true_eq] at hr
    obtain ⟨q, rfl⟩ := Int.eq_ofNat_of_zero_le (show 0 ≤ n by omega)
    have hk20 : (k : Int) ≤ 20 := by have := hw.1; omega
    have hk0 : (0 : Int) ≤ (k : Int) := by omega
    have hq1 : 1 ≤ q := by omega
    have hq2 : q ≤ 1000000 := by omega
    have hR : costR (q : Int) k = mkRat (M : Int) q := by unfold costR; rw [hM, Int.toNat_natCast]
    have hfit := fit_small (p := (M : Int)) (q := q) hq1 (by omega) (by omega)
    have hsm := num_den_small (p := (M : Int)) (q := q) hq1 (by omega) (by omega)
    have hfv := fracV_yes hfit
    have HQ := Lib.hid (fun (w : World) => quotient_any (M : Int) q w (by omega) (by omega) (by omega) hq1)
    obtain ⟨R, hRe⟩ : ∃ R, mkRat (M : Int) q = R := ⟨_, rfl⟩
    rw [hRe] at hR hfit hsm hfv HQ
    have HF := Lib.hid (And.intro hR (And.intro hsm hfv))
    clear hr hk hw hR hfit hsm hfv hRe
    go_enter Try.func16, Try.ntmps16
    go_wp2_with fail
    refine (isDrawn_any _ _).mono ?_
    rintro e w1 ⟨rfl, rfl⟩
    rw [HR.out.1]
    go_wp2_with fail
    refine (bitsFor_any (q : Int) k _ (by omega) (by omega) HR.out.2.1).mono ?_
    rintro e w1 ⟨rfl, rfl⟩
    go_wp2_with fail
    refine (HQ.out _).mono ?_
    rintro e w2 ⟨a1, c1, a2, c2, rfl, hx1, hx2, hb⟩
    have H1 := Lib.hid (And.intro hx1 (And.intro hx2 hb))
    clear hx1 hx2 hb
    go_wp2_with fail
    refine (fraction_any R a1 a2 c1 c2 _ H1.out.1 H1.out.2.1 HF.out.2.1.1 HF.out.2.1.2).mono ?_
    rintro e w3 ⟨rfl, hb3⟩
    rw [HF.out.2.2]
    have hb := bthen H1.out.2.2 hb3
    have q0 := (bcell hb).1 w.heap.size 0 (by simp)
    have q1 := (bcell hb).1 w.heap.size 1 (by simp)
    have f0 := (bcell hb).2 w.heap.size 0 (by simp)
    have f1 := (bcell hb).2 w.heap.size 1 (by simp)
    have Hb := Lib.hid (bthen ((Below.refl _ w).alloc (Nat.le_refl _) _) hb)
    clear hb hb3
    go_wp2_with fail
    refine bodyPost_ret (v := .tuple #[.agg #[.int .i64 R.num, .int .i64 (R.den : Nat)], .bool true]) (by simp [results, Try.results16, go_sem, *]) rfl ⟨by rw [HR.out.2.2, HF.out.1], ?_⟩
    exact (Hb.out.setCell (p := ⟨w.heap.size, 0, none⟩) (Nat.le_refl _) _).setCell (p := ⟨w.heap.size, 1, none⟩) (Nat.le_refl _) _
set_option maxRecDepth 20000 in
set_option maxHeartbeats 800000 in
theorem specRejectCost_any (n : Int) (k : Nat) (w : World) (hk : inR n 1 1000000 = true → WidthIs n k) :
    Calls Try.prog 15 #[.int .i64 n] w fun e w' => e = .returned (costV n k) ∧ Below w.heap.size w w' := by
  cases hr : inR n 1 1000000 with
  | false =>
    have HR := Lib.hid (And.intro hr (show costV n k = .tuple #[.agg #[.int .i64 0, .int .i64 0], .bool false] by unfold costV; rw [hr]; rfl))
    clear hr hk
    go_enter Try.func15, Try.ntmps15
    go_wp2_with fail
    refine (l06Number_any _ _).mono ?_
    rintro e w1 ⟨rfl, rfl⟩
    rw [HR.out.1]
    go_wp2_with fail
    refine bodyPost_ret (v := .tuple #[.agg #[.int .i64 0, .int .i64 0], .bool false]) (by simp [results, Try.results15, go_sem]) rfl ⟨by rw [HR.out.2], (Below.refl _ w).alloc (Nat.le_refl _) _⟩
  | true =>
    have hw := hk hr
    obtain ⟨M, hM, hMb⟩ := cost_num hw.1
    have HR := Lib.hid (And.intro hr (And.intro hw (show costV n k = .tuple #[.agg #[.int .i64 (costR n k).num, .int .i64 ((costR n k).den : Nat)], .bool true] by unfold costV; rw [hr]; rfl)))
    simp only [inR, Bool.and_eq_true, decide_eq_true_eq] at hr
    obtain ⟨q, rfl⟩ := Int.eq_ofNat_of_zero_le (show 0 ≤ n by omega)
    have hk20 : (k : Int) ≤ 20 := by have := hw.1; omega
    have hk0 : (0 : Int) ≤ (k : Int) := by omega
    have hq1 : 1 ≤ q := by omega
    have hq2 : q ≤ 1000000 := by omega
    have hR : costR (q : Int) k = mkRat (M : Int) q := by unfold costR; rw [hM, Int.toNat_natCast]
    have HQ := Lib.hid (fun (w : World) => l01FMake_any (M : Int) q w (by omega) (by omega) (by omega) hq1)
    obtain ⟨R, hRe⟩ : ∃ R, mkRat (M : Int) q = R := ⟨_, rfl⟩
    rw [hRe] at hR HQ
    have HF := Lib.hid hR
    clear hr hk hw hR hRe
    go_enter Try.func15, Try.ntmps15
    go_wp2_with fail
    refine (l06Number_any _ _).mono ?_
    rintro e w1 ⟨rfl, rfl⟩
    rw [HR.out.1]
    go_wp2_with fail
    refine (l06Width_any (q : Int) k _ (by omega) (by omega) HR.out.2.1).mono ?_
    rintro e w1 ⟨rfl, rfl⟩
    go_wp2_with fail
    refine (HQ.out _).mono ?_
    rintro e w3 ⟨rfl, hb⟩
    have q0 := (bcell hb).1 w.heap.size 0 (by simp)
    have q1 := (bcell hb).1 w.heap.size 1 (by simp)
    have f0 := (bcell hb).2 w.heap.size 0 (by simp)
    have f1 := (bcell hb).2 w.heap.size 1 (by simp)
    have Hb := Lib.hid (bthen ((Below.refl _ w).alloc (Nat.le_refl _) _) hb)
    clear hb
    go_wp2_with fail
    refine bodyPost_ret (v := .tuple #[.agg #[.int .i64 R.num, .int .i64 (R.den : Nat)], .bool true]) (by simp [results, Try.results15, go_sem, *]) rfl ⟨by rw [HR.out.2.2, HF.out], ?_⟩
    exact (Hb.out.setCell (p := ⟨w.heap.size, 0, none⟩) (Nat.le_refl _) _).setCell (p := ⟨w.heap.size, 1, none⟩) (Nat.le_refl _) _
theorem costV_form (n : Int) (k : Nat) : ∃ p q b, costV n k = .tuple #[.agg #[.int .i64 p, .int .i64 q], .bool b] := by
  unfold costV
  split
  · exact ⟨_, _, _, rfl⟩
  · exact ⟨_, _, _, rfl⟩
set_option maxHeartbeats 800000 in
theorem fnExactRejectCost_walk (n : Int) (w : World) :
    Calls Try.prog 3 #[.int .i64 n] w fun e w' => e = .returned (.bool true) ∧ Below w.heap.size w w' := by
  obtain ⟨k, hk⟩ : ∃ k, inR n 1 1000000 = true → WidthIs n k := by
    by_cases h : n ≤ 1000000
    · obtain ⟨k, hk⟩ := width_exists n h
      exact ⟨k, fun _ => hk⟩
    · exact ⟨0, fun hr => by simp [inR] at hr; omega⟩
  obtain ⟨p, q, b, hv⟩ := costV_form n k
  have H1 := Lib.hid (fun w => specRejectCost_any n k w hk)
  have H2 := Lib.hid (fun w => rejectCost_any n k w hk)
  rw [hv] at H1 H2
  clear hk hv
  go_enter Try.func3, Try.ntmps3
  go_wp2_with fail
  refine (H1.out _).mono ?_
  rintro e w1 ⟨rfl, hb1⟩
  have HB1 := Lib.hid hb1
  clear hb1
  go_wp2_with fail
  refine (H2.out _).mono ?_
  rintro e w2 ⟨rfl, hb2⟩
  have q0 := (bcell hb2).1 w1.heap.size 0 (by simp)
  have q1 := (bcell hb2).1 w1.heap.size 1 (by simp)
  have HB2 := Lib.hid (bthen (HB1.out.alloc HB1.out.size _) hb2)
  have hz := hb2.size
  simp at q0 q1
  have hba : Below w2.heap.size w2 (w2.alloc (.cells #[.int .i64 p, .int .i64 q] 23)) := (Below.refl _ w2).alloc (Nat.le_refl _) _
  have c0 := (hba.cell (p := ⟨w1.heap.size, 0, none⟩) (World.block_lt_of_cell? w2 _ q0)).trans q0
  have c1 := (hba.cell (p := ⟨w1.heap.size, 1, none⟩) (World.block_lt_of_cell? w2 _ q1)).trans q1
  clear hb2 hz hba
  go_wp2_with fail
  refine (eqFraction_same p q _).mono ?_
  rintro e w3 ⟨rfl, hb3⟩
  have HB3 := Lib.hid (bthen (HB2.out.alloc HB2.out.size _) hb3)
  clear hb3
  go_wp2_with fail
  go_ret
  exact ⟨rfl, HB3.out⟩
end Go.Proofs.Ytjaiinnkndokpaa

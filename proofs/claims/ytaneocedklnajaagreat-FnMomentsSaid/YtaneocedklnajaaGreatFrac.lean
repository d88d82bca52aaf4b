import Derived.Test.YtaneocedklnajaaGreatOne
import Derived.BigRegion
/- Which fractions are valid: the program's test and the reference's. No condition. -/
namespace Go.Proofs.YtaneocedklnajaaGreat
open Go.RowKit
set_option linter.unusedVariables false

theorem sizeA_any (n : Int) (w : World) (h0 : -9223372036854775807 ≤ n) (h1 : n ≤ 9223372036854775807) : Calls Tryz.prog 79 #[.int .i64 n] w fun e w' => e = .returned (.int .i64 (n.natAbs : Nat)) ∧ w' = w := by
  rcases Int.lt_trichotomy n 0 with h | h | h
  · have e : (n.natAbs : Int) = -n := by omega
    have h2 : max n (-n) = -n := by omega
    have h3 : n < -n := by omega
    rw [e]
    go_enter Tryz.func79, Tryz.ntmps79
    go_wp2
    go_ret
    exact ⟨rfl, rfl⟩
  · subst h
    go_enter Tryz.func79, Tryz.ntmps79
    go_wp2
    go_ret
    exact ⟨rfl, rfl⟩
  · have e : (n.natAbs : Int) = n := by omega
    have h2 : max n (-n) = n := by omega
    have h3 : -n < n := by omega
    rw [e]
    go_enter Tryz.func79, Tryz.ntmps79
    go_wp2
    go_ret
    exact ⟨rfl, rfl⟩
theorem maxA_any (a : Int) (w : World) (h0 : -9223372036854775807 ≤ a) (h1 : a ≤ 9223372036854775807) : Calls Tryz.prog 69 #[.int .i64 a, .int .i64 (-a)] w fun e w' => e = .returned (.int .i64 (a.natAbs : Nat)) ∧ w' = w := by
  by_cases h : -a < a
  · have e : (a.natAbs : Int) = a := by omega
    rw [e]
    go_enter Tryz.func69, Tryz.ntmps69
    go_wp2
    go_ret
    exact ⟨rfl, rfl⟩
  · have e : (a.natAbs : Int) = -a := by omega
    rw [e]
    go_enter Tryz.func69, Tryz.ntmps69
    go_wp2
    go_ret
    exact ⟨rfl, rfl⟩
theorem gcdS_any (a b : Nat) (w : World) (ha : a < 9223372036854775808) (hb : b < 9223372036854775808) :
    Calls Tryz.prog 124 #[.int .i64 (a : Nat), .int .i64 (b : Nat)] w fun e w' => e = .returned (.int .i64 (Nat.gcd a b : Nat)) ∧ w' = w := by
  obtain ⟨G, hG⟩ : ∃ G, Nat.gcd a b = G := ⟨_, rfl⟩
  rw [hG]
  have HG := Lib.hid hG
  clear hG
  go_enter Tryz.func124, Tryz.ntmps124
  go_wp2
  go_loop [0, 1] (fun v0 v1 => ∃ x y : Nat, v0 = .int .i64 (x : Nat) ∧ v1 = .int .i64 (y : Nat) ∧ x < 9223372036854775808 ∧ y < 9223372036854775808 ∧ Hid (Nat.gcd x y = G)) (fun _ v1 => (intOf v1).toNat)
  case atStart => exact ⟨a, b, rfl, rfl, ha, hb, HG⟩
  case round =>
    obtain ⟨x, y, rfl, rfl, hx, hy, HR⟩ := hrel
    by_cases h0 : 0 < y
    · have h1 : (0 : Int) < (y : Int) := by omega
      have hr : (x : Int) % (y : Int) = ((x % y : Nat) : Int) := by rw [Int.natCast_emod]
      have hlt := Nat.mod_lt x h0
      obtain ⟨r, hr'⟩ : ∃ r, x % y = r := ⟨_, rfl⟩
      rw [hr'] at hr hlt
      have HN := Lib.hid (show Nat.gcd y r = G by rw [← HR.out, ← hr', Nat.gcd_comm y, ← Nat.gcd_rec, Nat.gcd_comm])
      clear hr'
      go_wp2
      go_round
      case rel => exact ⟨y, r, rfl, by first | rfl | rw [hr], hy, by omega, HN⟩
      case measure => simp [intOf]; omega
    · obtain rfl : y = 0 := by omega
      have HX := Lib.hid (show x = G by rw [← HR.out, Nat.gcd_zero_right])
      go_wp2
      go_ret
      exact ⟨by rw [← HX.out]; rfl, rfl⟩
theorem drewN_two (w : World) (a b : Nat) : (w.drewN a).drewN b = w.drewN (a + b) := by
  simp [World.drewN, Nat.add_assoc]
set_option maxHeartbeats 800000 in
theorem gcdI_any (a b : Nat) (w : World) (ha : a < 9223372036854775808) (hb : b < 9223372036854775808) :
    Calls Tryz.prog 129 #[.int .i64 (a : Nat), .int .i64 (b : Nat)] w fun e w' => e = .returned (.int .i64 (Nat.gcd a b : Nat)) ∧ ∃ n, w' = w.drewN n := by
  obtain ⟨G, hG⟩ : ∃ G, Nat.gcd a b = G := ⟨_, rfl⟩
  rw [hG]
  have HG := Lib.hid hG
  clear hG
  go_enter Tryz.func129, Tryz.ntmps129
  go_wp2
  go_loopw [0, 1] (fun v0 v1 wr => ∃ x y : Nat, v0 = .int .i64 (x : Nat) ∧ v1 = .int .i64 (y : Nat) ∧ x < 9223372036854775808 ∧ y < 9223372036854775808 ∧ Hid (Nat.gcd x y = G) ∧ Hid (∃ n, wr = w.drewN n)) (fun _ v1 _ => (intOf v1).toNat)
  case atStart => exact ⟨a, b, rfl, rfl, ha, hb, HG, Lib.hid ⟨0, rfl⟩⟩
  case round =>
    obtain ⟨x, y, rfl, rfl, hx, hy, HR, HW⟩ := hrel
    by_cases h0 : 0 < y
    · have h1 : ((y : Int) != 0) = true := by simp; omega
      have hy0 : ((y : Int) == 0) = false := by rw [beq_eq_false_iff_ne]; omega
      have hyne : ¬ (y : Int) = 0 := by omega
      have hym : ¬ (y : Int) = -1 := by omega
      have hr : (x : Int).tmod (y : Int) = ((x % y : Nat) : Int) := by rw [Int.tmod_eq_emod_of_nonneg (by omega), Int.natCast_emod]
      have hr2 : (x : Int) % (y : Int) = ((x % y : Nat) : Int) := by rw [Int.natCast_emod]
      have hlt := Nat.mod_lt x h0
      obtain ⟨r, hr'⟩ : ∃ r, x % y = r := ⟨_, rfl⟩
      rw [hr'] at hr hr2 hlt
      have HN := Lib.hid (show Nat.gcd y r = G by rw [← HR.out, ← hr', Nat.gcd_comm y, ← Nat.gcd_rec, Nat.gcd_comm])
      have hrw : IntKind.i64.wrap (r : Int) = (r : Int) := IntWalk.i64_in _ (by omega)
      clear hr'
      go_wp2_with fail
      go_quiet (fail)
      go_wp2
      go_roundw
      case rel => exact ⟨y, r, rfl, by first | rfl | rw [hr] | rw [hr2], hy, by omega, HN, Lib.hid (by obtain ⟨n, rfl⟩ := HW.out; exact ⟨_, drewN_two _ _ _⟩)⟩
      case measure => simp [intOf]; omega
    · obtain rfl : y = 0 := by omega
      have HX := Lib.hid (show x = G by rw [← HR.out, Nat.gcd_zero_right])
      go_wp2
      go_ret
      exact ⟨by rw [← HX.out]; rfl, HW.out⟩
/-- A valid fraction: n over d in lowest terms, both small. -/
def vF (n d : Int) : Bool := inR d 1 1000000000000000000 && (inR n (-1000000000000000000) 1000000000000000000 && (Nat.gcd n.natAbs d.toNat == 1))
theorem vF_iff {n d : Int} : vF n d = true ↔ (1 ≤ d ∧ d ≤ 1000000000000000000) ∧ (-1000000000000000000 ≤ n ∧ n ≤ 1000000000000000000) ∧ Nat.gcd n.natAbs d.toNat = 1 := by
  simp only [vF, inR, Bool.and_eq_true, decide_eq_true_eq, beq_iff_eq]
theorem inRangeQ (n lo hi : Int) (w : World) : Calls Tryz.prog 54 #[.int .i64 n, .int .i64 lo, .int .i64 hi] w fun e w' => e = .returned (.bool (inR n lo hi)) ∧ w' = w :=
  (inRange_any n lo hi w).mono fun _ _ ⟨h1, h2⟩ => ⟨h1, h2.symm⟩
theorem l00InQ (n lo hi : Int) (w : World) : Calls Tryz.prog 64 #[.int .i64 n, .int .i64 lo, .int .i64 hi] w fun e w' => e = .returned (.bool (inR n lo hi)) ∧ w' = w :=
  (l00In_any n lo hi w).mono fun _ _ ⟨h1, h2⟩ => ⟨h1, h2.symm⟩
set_option maxRecDepth 20000 in
set_option maxHeartbeats 1600000 in
theorem validFraction_any (n d : Int) (w : World) : Calls Tryz.prog 97 #[.agg #[.int .i64 n, .int .i64 d]] w (Ret w (.bool (vF n d))) := by
  cases hd : inR d 1 1000000000000000000 with
  | false =>
    have HV := Lib.hid (show vF n d = false by unfold vF; rw [hd]; rfl)
    go_enter Tryz.func97, Tryz.ntmps97
    go_wp2_with fail
    go_quiet ((go_at_call 54; exact Calls.quiet_of_same (inRangeQ _ _ _ _)))
    go_wp2
    go_ret
    exact ⟨by rw [HV.out]; rfl, bthen ((Below.refl _ w).alloc (Nat.le_refl _) _) (drewN_below _ _)⟩
  | true =>
    cases hn : inR n (-1000000000000000000) 1000000000000000000 with
    | false =>
      have HV := Lib.hid (show vF n d = false by unfold vF; rw [hd, hn]; rfl)
      go_enter Tryz.func97, Tryz.ntmps97
      go_wp2_with fail
      go_quiet ((go_at_call 54; exact Calls.quiet_of_same (inRangeQ _ _ _ _)))
      go_wp2
      go_ret
      exact ⟨by rw [HV.out]; rfl, bthen ((Below.refl _ w).alloc (Nat.le_refl _) _) (drewN_below _ _)⟩
    | true =>
      have hd2 : 1 ≤ d ∧ d ≤ 1000000000000000000 := by simpa [inR] using hd
      have hn2 : -1000000000000000000 ≤ n ∧ n ≤ 1000000000000000000 := by simpa [inR] using hn
      obtain ⟨q, rfl⟩ := Int.eq_ofNat_of_zero_le (show 0 ≤ d by omega)
      have hvf : vF n (q : Int) = (Nat.gcd n.natAbs q == 1) := by unfold vF; rw [hd, hn]; rfl
      have HS := Lib.hid (fun w => sizeA_any n w (by omega) (by omega))
      have HG := Lib.hid (fun w => gcdI_any n.natAbs q w (by omega) (by omega))
      obtain ⟨G, hG⟩ : ∃ G, Nat.gcd n.natAbs q = G := ⟨_, rfl⟩
      rw [hG] at hvf HG
      have HV := Lib.hid hvf
      clear hG hvf hd2 hn2
      by_cases h1 : G = 1
      · subst h1
        go_enter Tryz.func97, Tryz.ntmps97
        go_wp2_with fail
        go_quiet ((first | (go_at_call 54; exact Calls.quiet_of_same (inRangeQ _ _ _ _)) | (go_at_call 79; exact Calls.quiet_of_same (HS.out _)) | (go_at_call 129; exact Calls.quiet_of (HG.out _))))
        go_wp2
        go_ret
        exact ⟨by rw [HV.out]; rfl, bthen ((Below.refl _ w).alloc (Nat.le_refl _) _) (drewN_below _ _)⟩
      · have hg1 : ((G : Int) == 1) = false := by rw [beq_eq_false_iff_ne]; omega
        have hg2 : (G == 1) = false := by rw [beq_eq_false_iff_ne]; exact h1
        go_enter Tryz.func97, Tryz.ntmps97
        go_wp2_with fail
        go_quiet ((first | (go_at_call 54; exact Calls.quiet_of_same (inRangeQ _ _ _ _)) | (go_at_call 79; exact Calls.quiet_of_same (HS.out _)) | (go_at_call 129; exact Calls.quiet_of (HG.out _))))
        go_wp2
        go_ret
        exact ⟨by rw [HV.out, hg2]; rfl, bthen ((Below.refl _ w).alloc (Nat.le_refl _) _) (drewN_below _ _)⟩
set_option maxRecDepth 20000 in
set_option maxHeartbeats 400000 in
theorem l01FIs_any (n d : Int) (w : World) : Calls Tryz.prog 91 #[.agg #[.int .i64 n, .int .i64 d]] w (Ret w (.bool (vF n d))) := by
  have h1 := fun w => l00InQ d 1 1000000000000000000 w
  have h2 := fun w => l00InQ n (-1000000000000000000) 1000000000000000000 w
  cases hd : inR d 1 1000000000000000000 with
  | false =>
    have HV := Lib.hid (show vF n d = false by unfold vF; rw [hd]; rfl)
    rw [hd] at h1
    have H1 := Lib.hid h1
    clear h1 h2 hd
    go_enter Tryz.func91, Tryz.ntmps91
    go_wp2_with fail
    go_quiet ((go_at_call 64; (with_reducible exact Calls.quiet_of_same (H1.out _))))
    go_wp2
    go_ret
    exact ⟨by rw [HV.out]; rfl, bthen ((Below.refl _ w).alloc (Nat.le_refl _) _) (drewN_below _ _)⟩
  | true =>
    rw [hd] at h1
    cases hn : inR n (-1000000000000000000) 1000000000000000000 with
    | false =>
      have HV := Lib.hid (show vF n d = false by unfold vF; rw [hd, hn]; rfl)
      rw [hn] at h2
      have H1 := Lib.hid h1
      have H2 := Lib.hid h2
      clear h1 h2 hd hn
      go_enter Tryz.func91, Tryz.ntmps91
      go_wp2_with fail
      go_quiet ((go_at_call 64; (first | (with_reducible exact Calls.quiet_of_same (H1.out _)) | (with_reducible exact Calls.quiet_of_same (H2.out _)))))
      go_wp2
      go_ret
      exact ⟨by rw [HV.out]; rfl, bthen ((Below.refl _ w).alloc (Nat.le_refl _) _) (drewN_below _ _)⟩
    | true =>
      have hd2 : 1 ≤ d ∧ d ≤ 1000000000000000000 := by simpa [inR] using hd
      have hn2 : -1000000000000000000 ≤ n ∧ n ≤ 1000000000000000000 := by simpa [inR] using hn
      rw [hn] at h2
      have H1 := Lib.hid h1
      have H2 := Lib.hid h2
      clear h1 h2
      obtain ⟨q, rfl⟩ := Int.eq_ofNat_of_zero_le (show 0 ≤ d by omega)
      have hvf : vF n (q : Int) = (Nat.gcd n.natAbs q == 1) := by unfold vF; rw [hd, hn]; rfl
      have hneg : IntKind.i64.wrap (-n) = -n := IntWalk.i64_in _ (by omega)
      have HS := Lib.hid (fun w => maxA_any n w (by omega) (by omega))
      have HG := Lib.hid (fun w => gcdS_any n.natAbs q w (by omega) (by omega))
      obtain ⟨G, hG⟩ : ∃ G, Nat.gcd n.natAbs q = G := ⟨_, rfl⟩
      obtain ⟨A, hA⟩ : ∃ A, n.natAbs = A := ⟨_, rfl⟩
      rw [hG] at hvf HG
      rw [hA] at HS HG
      have HV := Lib.hid hvf
      clear hG hvf hd2 hn2 hd hn hA
      by_cases h1 : G = 1
      · subst h1
        go_enter Tryz.func91, Tryz.ntmps91
        go_wp2_with fail
        go_quiet ((first | (go_at_call 64; (first | (with_reducible exact Calls.quiet_of_same (H1.out _)) | (with_reducible exact Calls.quiet_of_same (H2.out _)))) | (go_at_call 69; exact Calls.quiet_of_same (HS.out _)) | (go_at_call 124; exact Calls.quiet_of_same (HG.out _))))
        go_wp2
        go_ret
        exact ⟨by rw [HV.out]; rfl, bthen ((Below.refl _ w).alloc (Nat.le_refl _) _) (drewN_below _ _)⟩
      · have hg1 : ((G : Int) == 1) = false := by rw [beq_eq_false_iff_ne]; omega
        have hg2 : (G == 1) = false := by rw [beq_eq_false_iff_ne]; exact h1
        go_enter Tryz.func91, Tryz.ntmps91
        go_wp2_with fail
        go_quiet ((first | (go_at_call 64; (first | (with_reducible exact Calls.quiet_of_same (H1.out _)) | (with_reducible exact Calls.quiet_of_same (H2.out _)))) | (go_at_call 69; exact Calls.quiet_of_same (HS.out _)) | (go_at_call 124; exact Calls.quiet_of_same (HG.out _))))
        go_wp2
        go_ret
        exact ⟨by rw [HV.out, hg2]; rfl, bthen ((Below.refl _ w).alloc (Nat.le_refl _) _) (drewN_below _ _)⟩
theorem toFraction_any (n d : Int) (w : World) : Calls Tryz.prog 72 #[.agg #[.int .i64 n, .int .i64 d]] w (Ret w (.agg #[.int .i64 n, .int .i64 d])) := by
  go_enter Tryz.func72, Tryz.ntmps72
  go_wp2
  refine bodyPost_ret (v := .agg #[.int .i64 n, .int .i64 d]) (by simp [results, Tryz.results72, go_sem]) rfl ⟨rfl, ?_⟩
  exact (((Below.refl _ w).alloc (Nat.le_refl _) _).alloc (by simp) _).alloc (by simp; omega) _
end Go.Proofs.YtaneocedklnajaaGreat

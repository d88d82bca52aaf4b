import Derived.Test.YtgonnnjfefjnjaaDoorNear
/- The greatest number of a spectrum and where it stands: the reference's walk, and the laws FnExactNearestSum, FnExactNonlinearityOf, FnExactBalanceOf. Condition: the text is shorter than the model's greatest length. -/
namespace Go.Proofs.YtgonnnjfefjnjaaDoor
open Go.RowKit
set_option linter.unusedVariables false

set_option maxRecDepth 20000 in
set_option maxHeartbeats 3200000 in
theorem l04Nearest_any (s : ByteArray) (k : Nat) (w : World) (hk : k < 7) (hs : s.size = 2 ^ k) (hb : isB s = true) :
    Calls Tryd.prog 54 #[.string s] w (Ret3 w ((nrS s).1 : Nat) (nrS s).2.1 (nrD s)) := by
  have hsz : s.size ≤ 64 := by have := pow_le_64 k hk; omega
  have hs1 : 1 ≤ s.size := by rw [hs]; exact Nat.one_le_two_pow
  have hC := l04Spectrum_any s k w hk hs hb
  have hab := spS'_abs s
  have hln := spS'_len s
  have hnr : nrS s = nrA (spS' s) s.size := rfl
  have hnd : nrD s = ((s.size : Int) - (nrS s).2.2) / 2 := rfl
  obtain ⟨L, hL⟩ : ∃ L, spS' s = L := ⟨_, rfl⟩
  obtain ⟨A, hA⟩ : ∃ A, nrS s = A := ⟨_, rfl⟩
  obtain ⟨D, hD⟩ : ∃ D, nrD s = D := ⟨_, rfl⟩
  rw [hL] at hC hab hln hnr
  rw [hA] at hnr hnd ⊢
  rw [hD] at hnd ⊢
  have HAT := Lib.hid (And.intro hab (And.intro hln (And.intro hnr hnd)))
  have HC := Lib.hid hC
  clear hab hln hnr hnd hC hL hA hD hs hb
  go_enter Tryd.func54, Tryd.ntmps54
  go_wp2_with fail
  refine (HC.out).mono ?_
  rintro e w1 ⟨ad, c, rfl, hown, hbw⟩
  rw [HAT.out.2.1] at hown ⊢
  have HB := Lib.hid hbw
  have HO := Lib.hid (IsInts.of_own hown)
  clear hown hbw
  go_wp2
  go_loopw [9, 6, 7, 8] (fun i at_ fl be wr => ∃ (m a : Nat) (f b : Int), m ≤ s.size ∧ i = .int .i64 (m : Nat) ∧ at_ = .int .i64 (a : Nat) ∧ fl = .int .i64 f ∧ be = .int .i64 b ∧ -1 ≤ b ∧ b ≤ s.size ∧ Hid (nrA L m = (a, f, b)) ∧ wr = w1) (fun i _ _ _ _ => s.size - (intOf i).toNat)
  case atStart => exact ⟨0, 0, 0, -1, Nat.zero_le _, rfl, rfl, rfl, rfl, by omega, by omega, Lib.hid rfl, rfl⟩
  case round =>
    obtain ⟨m, a, f, b, hm, rfl, rfl, rfl, rfl, hb1, hb2, HN, rfl⟩ := hrel
    by_cases hlt : m < s.size
    · obtain ⟨bl, off, had, hc⟩ := HO.out.at hlt
      subst had
      have hm0 : (0:Int) ≤ (m:Int) := by omega
      have hmi : (m:Int) < (s.size:Int) := by omega
      have hz := HAT.out.1 m
      have hst : nrA L (m + 1) = if (nrA L m).2.2 < ((L.getD m 0).natAbs : Int) then (m, (if L.getD m 0 < 0 then 1 else 0), ((L.getD m 0).natAbs : Int)) else nrA L m := rfl
      rw [HN.out] at hst
      obtain ⟨z, hzz⟩ : ∃ z, L.getD m 0 = z := ⟨_, rfl⟩
      rw [hzz] at hc hz hst
      have HS := Lib.hid hst
      have hwn : IntKind.i64.wrap (-z) = -z := IntWalk.i64_in _ (by omega)
      clear hst hzz
      by_cases h1 : b < z
      · have hz0 : 0 ≤ z := by omega
        have hnn : ¬ z < -z := by omega
        have HN2 := Lib.hid (show nrA L (m + 1) = (m, 0, z) by rw [HS.out, if_pos (by show b < (z.natAbs : Int); omega), if_neg (by omega)]; simp only [Int.natAbs_of_nonneg hz0])
        go_wp2
        go_roundw
        case rel => exact ⟨m + 1, m, 0, z, by omega, by go_num, rfl, rfl, rfl, by omega, by omega, HN2, trivial⟩
        case measure => simp [intOf]; omega
      · by_cases h2 : b < -z
        · have HN2 := Lib.hid (show nrA L (m + 1) = (m, 1, -z) by
            have e : (z.natAbs : Int) = -z := by omega
            rw [HS.out, e, if_pos (show b < -z from h2), if_pos (by omega)])
          go_wp2
          go_roundw
          case rel => exact ⟨m + 1, m, 1, -z, by omega, by go_num, rfl, rfl, rfl, by omega, by omega, HN2, trivial⟩
          case measure => simp [intOf]; omega
        · have HN2 := Lib.hid (show nrA L (m + 1) = (a, f, b) by rw [HS.out, if_neg (by show ¬ b < (z.natAbs : Int); omega)])
          go_wp2
          go_roundw
          case rel => exact ⟨m + 1, a, f, b, by omega, by go_num, rfl, rfl, rfl, hb1, hb2, HN2, trivial⟩
          case measure => simp [intOf]; omega
    · obtain rfl : m = s.size := by omega
      have hA : A = (a, f, b) := HAT.out.2.2.1.trans HN.out
      have hD : ((s.size : Int) - b) / 2 = D := by rw [HAT.out.2.2.2, hA]
      have HA := Lib.hid hA
      have hw : IntKind.i64.wrap ((s.size : Int) - b) = (s.size : Int) - b := IntWalk.i64_in _ (by omega)
      have ht : ((s.size : Int) - b).tdiv 2 = D := by rw [Int.tdiv_eq_ediv_of_nonneg (by omega)]; exact hD
      have hDb : 0 ≤ D ∧ D ≤ 64 := by omega
      clear hA hD
      go_wp2
      go_ret3
      exact ⟨by rw [HA.out]; rfl, HB.out⟩
/-- A call's answer: a number, and whether there is one. -/
def RetVal (w : World) (ok : Bool) (z : Int) (e : Ending) (w' : World) : Prop := e = .returned (.tuple #[.int .i64 z, .bool ok]) ∧ Below w.heap.size w w'
def RetVal2 (w : World) (ok : Bool) (x z : Int) (e : Ending) (w' : World) : Prop := e = .returned (.tuple #[.int .i64 x, .int .i64 z, .bool ok]) ∧ Below w.heap.size w w'
def tabV (s : ByteArray) (z : Int) : Int := if isT s then z else 0
theorem balanceOf_any (s : ByteArray) (w : World) (hs : s.size ≤ maxLen) : Calls Tryd.prog 18 #[.string s] w (RetVal w (isT s) (tabV s ((spS' s).getD 0 0))) := by
  cases ht : isT s with
  | false =>
    rw [show tabV s ((spS' s).getD 0 0) = 0 by unfold tabV; rw [ht]; rfl]
    have HT := Lib.hid ht
    clear ht
    go_enter Tryd.func18, Tryd.ntmps18
    go_wp2_with fail
    refine (isTable_any s _ hs).mono ?_
    rintro e w1 ⟨rfl, hb1⟩
    rw [HT.out]
    go_wp2_with fail
    go_ret2
    exact ⟨rfl, hb1⟩
  | true =>
    rw [show tabV s ((spS' s).getD 0 0) = (spS' s).getD 0 0 by unfold tabV; rw [ht]; rfl]
    obtain ⟨k, hi, hk, hsz, hB⟩ := isT_iff ht
    have hs1 : 1 ≤ s.size := by rw [hsz]; exact Nat.one_le_two_pow
    have HT := Lib.hid (And.intro ht (And.intro hsz hB))
    clear ht hi hsz hB
    go_enter Tryd.func18, Tryd.ntmps18
    go_wp2_with fail
    refine (isTable_any s _ hs).mono ?_
    rintro e w1 ⟨rfl, hb1⟩
    rw [HT.out.1]
    have Hb1 := Lib.hid hb1
    clear hb1
    go_wp2_with fail
    refine (spectrum_any s k _ hk HT.out.2.1 HT.out.2.2).mono ?_
    rintro e w2 ⟨a, c, rfl, hown, hb2⟩
    rw [spS'_len] at hown ⊢
    obtain ⟨bl, off, rfl, hc⟩ := (IsInts.of_own hown).at (show 0 < s.size by omega)
    have hs1' : (0 : Int) < (s.size : Int) := by omega
    simp only [Nat.add_zero] at hc
    have H := Lib.hid (bthen Hb1.out hb2)
    clear hown hb2
    go_wp2
    go_ret2
    exact ⟨rfl, H.out⟩
theorem specBalanceOf_any (s : ByteArray) (w : World) (hs : s.size ≤ maxLen) : Calls Tryd.prog 17 #[.string s] w (RetVal w (isT s) (tabV s ((spS' s).getD 0 0))) := by
  cases ht : isT s with
  | false =>
    rw [show tabV s ((spS' s).getD 0 0) = 0 by unfold tabV; rw [ht]; rfl]
    have HT := Lib.hid ht
    clear ht
    go_enter Tryd.func17, Tryd.ntmps17
    go_wp2_with fail
    refine (l04Table_any s _ hs).mono ?_
    rintro e w1 ⟨rfl, rfl⟩
    rw [HT.out]
    go_wp2_with fail
    go_ret2
    exact ⟨rfl, Below.refl _ _⟩
  | true =>
    rw [show tabV s ((spS' s).getD 0 0) = (spS' s).getD 0 0 by unfold tabV; rw [ht]; rfl]
    obtain ⟨k, hi, hk, hsz, hB⟩ := isT_iff ht
    have hs1 : 1 ≤ s.size := by rw [hsz]; exact Nat.one_le_two_pow
    have HT := Lib.hid (And.intro ht (And.intro hsz hB))
    clear ht hi hsz hB
    go_enter Tryd.func17, Tryd.ntmps17
    go_wp2_with fail
    refine (l04Table_any s _ hs).mono ?_
    rintro e w1 ⟨rfl, rfl⟩
    rw [HT.out.1]
    go_wp2_with fail
    refine (l04Spectrum_any s k _ hk HT.out.2.1 HT.out.2.2).mono ?_
    rintro e w2 ⟨a, c, rfl, hown, hb2⟩
    rw [spS'_len] at hown ⊢
    obtain ⟨bl, off, rfl, hc⟩ := (IsInts.of_own hown).at (show 0 < s.size by omega)
    have hs1' : (0 : Int) < (s.size : Int) := by omega
    simp only [Nat.add_zero] at hc
    have H := Lib.hid hb2
    clear hown hb2
    go_wp2
    go_ret2
    exact ⟨rfl, H.out⟩
theorem nearestSumT_any (s : ByteArray) (w : World) (hs : s.size ≤ maxLen) : Calls Tryd.prog 27 #[.string s] w (RetVal2 w (isT s) (tabV s (((nrS s).1 : Nat))) (tabV s ((nrS s).2.1))) := by
  cases ht : isT s with
  | false =>
    rw [show tabV s (((nrS s).1 : Nat)) = 0 by unfold tabV; rw [ht]; rfl]
    rw [show tabV s ((nrS s).2.1) = 0 by unfold tabV; rw [ht]; rfl]
    have HT := Lib.hid ht
    clear ht
    go_enter Tryd.func27, Tryd.ntmps27
    go_wp2_with fail
    refine (isTable_any s _ hs).mono ?_
    rintro e w1 ⟨rfl, hb1⟩
    rw [HT.out]
    go_wp2_with fail
    go_ret3
    exact ⟨rfl, hb1⟩
  | true =>
    rw [show tabV s (((nrS s).1 : Nat)) = ((nrS s).1 : Nat) by unfold tabV; rw [ht]; rfl]
    rw [show tabV s ((nrS s).2.1) = (nrS s).2.1 by unfold tabV; rw [ht]; rfl]
    obtain ⟨k, hi, hk, hsz, hB⟩ := isT_iff ht
    have HT := Lib.hid (And.intro ht (And.intro hsz hB))
    have HC := Lib.hid (fun w => nearestSum_any s k w hk hsz hB)
    obtain ⟨x0, hx0⟩ : ∃ x, (((nrS s).1 : Nat) : Int) = x := ⟨_, rfl⟩
    obtain ⟨x1, hx1⟩ : ∃ x, ((nrS s).2.1 : Int) = x := ⟨_, rfl⟩
    obtain ⟨x2, hx2⟩ : ∃ x, (nrD s : Int) = x := ⟨_, rfl⟩
    rw [hx0, hx1, hx2] at HC
    rw [hx0, hx1]
    clear ht hi hsz hB hx0 hx1 hx2
    go_enter Tryd.func27, Tryd.ntmps27
    go_wp2_with fail
    refine (isTable_any s _ hs).mono ?_
    rintro e w1 ⟨rfl, hb1⟩
    rw [HT.out.1]
    have Hb1 := Lib.hid hb1
    clear hb1
    go_wp2_with fail
    refine (HC.out _).mono ?_
    rintro e w2 ⟨rfl, hb2⟩
    have H := Lib.hid (bthen Hb1.out hb2)
    clear hb2
    go_wp2
    go_ret3
    exact ⟨rfl, H.out⟩
theorem specNearestSumT_any (s : ByteArray) (w : World) (hs : s.size ≤ maxLen) : Calls Tryd.prog 26 #[.string s] w (RetVal2 w (isT s) (tabV s (((nrS s).1 : Nat))) (tabV s ((nrS s).2.1))) := by
  cases ht : isT s with
  | false =>
    rw [show tabV s (((nrS s).1 : Nat)) = 0 by unfold tabV; rw [ht]; rfl]
    rw [show tabV s ((nrS s).2.1) = 0 by unfold tabV; rw [ht]; rfl]
    have HT := Lib.hid ht
    clear ht
    go_enter Tryd.func26, Tryd.ntmps26
    go_wp2_with fail
    refine (l04Table_any s _ hs).mono ?_
    rintro e w1 ⟨rfl, rfl⟩
    rw [HT.out]
    go_wp2_with fail
    go_ret3
    exact ⟨rfl, Below.refl _ _⟩
  | true =>
    rw [show tabV s (((nrS s).1 : Nat)) = ((nrS s).1 : Nat) by unfold tabV; rw [ht]; rfl]
    rw [show tabV s ((nrS s).2.1) = (nrS s).2.1 by unfold tabV; rw [ht]; rfl]
    obtain ⟨k, hi, hk, hsz, hB⟩ := isT_iff ht
    have HT := Lib.hid (And.intro ht (And.intro hsz hB))
    have HC := Lib.hid (fun w => l04Nearest_any s k w hk hsz hB)
    obtain ⟨x0, hx0⟩ : ∃ x, (((nrS s).1 : Nat) : Int) = x := ⟨_, rfl⟩
    obtain ⟨x1, hx1⟩ : ∃ x, ((nrS s).2.1 : Int) = x := ⟨_, rfl⟩
    obtain ⟨x2, hx2⟩ : ∃ x, (nrD s : Int) = x := ⟨_, rfl⟩
    rw [hx0, hx1, hx2] at HC
    rw [hx0, hx1]
    clear ht hi hsz hB hx0 hx1 hx2
    go_enter Tryd.func26, Tryd.ntmps26
    go_wp2_with fail
    refine (l04Table_any s _ hs).mono ?_
    rintro e w1 ⟨rfl, rfl⟩
    rw [HT.out.1]
    go_wp2_with fail
    refine (HC.out _).mono ?_
    rintro e w2 ⟨rfl, hb2⟩
    have H := Lib.hid (hb2)
    clear hb2
    go_wp2
    go_ret3
    exact ⟨rfl, H.out⟩
theorem nonlinearityOf_any (s : ByteArray) (w : World) (hs : s.size ≤ maxLen) : Calls Tryd.prog 29 #[.string s] w (RetVal w (isT s) (tabV s (nrD s))) := by
  cases ht : isT s with
  | false =>
    rw [show tabV s (nrD s) = 0 by unfold tabV; rw [ht]; rfl]
    have HT := Lib.hid ht
    clear ht
    go_enter Tryd.func29, Tryd.ntmps29
    go_wp2_with fail
    refine (isTable_any s _ hs).mono ?_
    rintro e w1 ⟨rfl, hb1⟩
    rw [HT.out]
    go_wp2_with fail
    go_ret2
    exact ⟨rfl, hb1⟩
  | true =>
    rw [show tabV s (nrD s) = nrD s by unfold tabV; rw [ht]; rfl]
    obtain ⟨k, hi, hk, hsz, hB⟩ := isT_iff ht
    have HT := Lib.hid (And.intro ht (And.intro hsz hB))
    have HC := Lib.hid (fun w => nearestSum_any s k w hk hsz hB)
    obtain ⟨x0, hx0⟩ : ∃ x, (((nrS s).1 : Nat) : Int) = x := ⟨_, rfl⟩
    obtain ⟨x1, hx1⟩ : ∃ x, ((nrS s).2.1 : Int) = x := ⟨_, rfl⟩
    obtain ⟨x2, hx2⟩ : ∃ x, (nrD s : Int) = x := ⟨_, rfl⟩
    rw [hx0, hx1, hx2] at HC
    rw [hx2]
    clear ht hi hsz hB hx0 hx1 hx2
    go_enter Tryd.func29, Tryd.ntmps29
    go_wp2_with fail
    refine (isTable_any s _ hs).mono ?_
    rintro e w1 ⟨rfl, hb1⟩
    rw [HT.out.1]
    have Hb1 := Lib.hid hb1
    clear hb1
    go_wp2_with fail
    refine (HC.out _).mono ?_
    rintro e w2 ⟨rfl, hb2⟩
    have H := Lib.hid (bthen Hb1.out hb2)
    clear hb2
    go_wp2
    go_ret2
    exact ⟨rfl, H.out⟩
theorem specNonlinearityOf_any (s : ByteArray) (w : World) (hs : s.size ≤ maxLen) : Calls Tryd.prog 28 #[.string s] w (RetVal w (isT s) (tabV s (nrD s))) := by
  cases ht : isT s with
  | false =>
    rw [show tabV s (nrD s) = 0 by unfold tabV; rw [ht]; rfl]
    have HT := Lib.hid ht
    clear ht
    go_enter Tryd.func28, Tryd.ntmps28
    go_wp2_with fail
    refine (l04Table_any s _ hs).mono ?_
    rintro e w1 ⟨rfl, rfl⟩
    rw [HT.out]
    go_wp2_with fail
    go_ret2
    exact ⟨rfl, Below.refl _ _⟩
  | true =>
    rw [show tabV s (nrD s) = nrD s by unfold tabV; rw [ht]; rfl]
    obtain ⟨k, hi, hk, hsz, hB⟩ := isT_iff ht
    have HT := Lib.hid (And.intro ht (And.intro hsz hB))
    have HC := Lib.hid (fun w => l04Nearest_any s k w hk hsz hB)
    obtain ⟨x0, hx0⟩ : ∃ x, (((nrS s).1 : Nat) : Int) = x := ⟨_, rfl⟩
    obtain ⟨x1, hx1⟩ : ∃ x, ((nrS s).2.1 : Int) = x := ⟨_, rfl⟩
    obtain ⟨x2, hx2⟩ : ∃ x, (nrD s : Int) = x := ⟨_, rfl⟩
    rw [hx0, hx1, hx2] at HC
    rw [hx2]
    clear ht hi hsz hB hx0 hx1 hx2
    go_enter Tryd.func28, Tryd.ntmps28
    go_wp2_with fail
    refine (l04Table_any s _ hs).mono ?_
    rintro e w1 ⟨rfl, rfl⟩
    rw [HT.out.1]
    go_wp2_with fail
    refine (HC.out _).mono ?_
    rintro e w2 ⟨rfl, hb2⟩
    have H := Lib.hid (hb2)
    clear hb2
    go_wp2
    go_ret2
    exact ⟨rfl, H.out⟩
set_option maxHeartbeats 1600000 in
theorem fnExactBalanceOf_walk (s : ByteArray) (w : World) (hs : s.size ≤ maxLen) :
    Calls Tryd.prog 4 #[.string s] w fun e w' => e = .returned (.bool true) ∧ Below w.heap.size w w' := by
  by_cases hbig : 1048576 < s.size
  · have : (1048576 : Int) < (s.size : Int) := by omega
    go_enter Tryd.func4, Tryd.ntmps4
    go_wp2
    go_ret
    exact ⟨rfl, Below.refl _ _⟩
  · have HI := Lib.hid (fun w => balanceOf_any s w hs)
    have HS := Lib.hid (fun w => specBalanceOf_any s w hs)
    obtain ⟨d, hd⟩ : ∃ d, isT s = d := ⟨_, rfl⟩
    obtain ⟨z, hz⟩ : ∃ z, tabV s ((spS' s).getD 0 0) = z := ⟨_, rfl⟩
    rw [hd, hz] at HI HS
    have h0 : ¬ (1048576 : Int) < (s.size : Int) := by omega
    clear hd hz hbig
    go_enter Tryd.func4, Tryd.ntmps4
    go_wp2_with fail
    refine (HS.out _).mono ?_
    rintro e w1 ⟨rfl, hb1⟩
    have HB1 := Lib.hid hb1
    clear hb1
    go_wp2_with fail
    refine (HI.out _).mono ?_
    rintro e w2 ⟨rfl, hb2⟩
    have HB2 := Lib.hid (bthen HB1.out hb2)
    clear hb2
    go_wp2
    go_ret
    exact ⟨rfl, HB2.out⟩
set_option maxHeartbeats 1600000 in
theorem fnExactNonlinearityOf_walk (s : ByteArray) (w : World) (hs : s.size ≤ maxLen) :
    Calls Tryd.prog 8 #[.string s] w fun e w' => e = .returned (.bool true) ∧ Below w.heap.size w w' := by
  by_cases hbig : 1048576 < s.size
  · have : (1048576 : Int) < (s.size : Int) := by omega
    go_enter Tryd.func8, Tryd.ntmps8
    go_wp2
    go_ret
    exact ⟨rfl, Below.refl _ _⟩
  · have HI := Lib.hid (fun w => nonlinearityOf_any s w hs)
    have HS := Lib.hid (fun w => specNonlinearityOf_any s w hs)
    obtain ⟨d, hd⟩ : ∃ d, isT s = d := ⟨_, rfl⟩
    obtain ⟨z, hz⟩ : ∃ z, tabV s (nrD s) = z := ⟨_, rfl⟩
    rw [hd, hz] at HI HS
    have h0 : ¬ (1048576 : Int) < (s.size : Int) := by omega
    clear hd hz hbig
    go_enter Tryd.func8, Tryd.ntmps8
    go_wp2_with fail
    refine (HS.out _).mono ?_
    rintro e w1 ⟨rfl, hb1⟩
    have HB1 := Lib.hid hb1
    clear hb1
    go_wp2_with fail
    refine (HI.out _).mono ?_
    rintro e w2 ⟨rfl, hb2⟩
    have HB2 := Lib.hid (bthen HB1.out hb2)
    clear hb2
    go_wp2
    go_ret
    exact ⟨rfl, HB2.out⟩
set_option maxHeartbeats 1600000 in
theorem fnExactNearestSum_walk (s : ByteArray) (w : World) (hs : s.size ≤ maxLen) :
    Calls Tryd.prog 7 #[.string s] w fun e w' => e = .returned (.bool true) ∧ Below w.heap.size w w' := by
  by_cases hbig : 1048576 < s.size
  · have : (1048576 : Int) < (s.size : Int) := by omega
    go_enter Tryd.func7, Tryd.ntmps7
    go_wp2
    go_ret
    exact ⟨rfl, Below.refl _ _⟩
  · have HI := Lib.hid (fun w => nearestSumT_any s w hs)
    have HS := Lib.hid (fun w => specNearestSumT_any s w hs)
    obtain ⟨d, hd⟩ : ∃ d, isT s = d := ⟨_, rfl⟩
    obtain ⟨x, hx⟩ : ∃ x, tabV s (((nrS s).1 : Nat)) = x := ⟨_, rfl⟩
    obtain ⟨z, hz⟩ : ∃ z, tabV s ((nrS s).2.1) = z := ⟨_, rfl⟩
    rw [hd, hx, hz] at HI HS
    have h0 : ¬ (1048576 : Int) < (s.size : Int) := by omega
    clear hd hz hbig
    go_enter Tryd.func7, Tryd.ntmps7
    go_wp2_with fail
    refine (HS.out _).mono ?_
    rintro e w1 ⟨rfl, hb1⟩
    have HB1 := Lib.hid hb1
    clear hb1
    go_wp2_with fail
    refine (HI.out _).mono ?_
    rintro e w2 ⟨rfl, hb2⟩
    have HB2 := Lib.hid (bthen HB1.out hb2)
    clear hb2
    go_wp2
    go_ret
    exact ⟨rfl, HB2.out⟩
end Go.Proofs.YtgonnnjfefjnjaaDoor

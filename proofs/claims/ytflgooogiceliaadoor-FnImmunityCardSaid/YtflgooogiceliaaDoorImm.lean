import Derived.Test.YtflgooogiceliaaDoorWeight
/- The correlation immunity of a table: the program's walk, the reference's, and the law FnExactImmunityOf. Condition: the text is shorter than the model's greatest length. -/
namespace Go.Proofs.YtflgooogiceliaaDoor
open Go.RowKit
set_option linter.unusedVariables false

/-- The least weight, and b0, of the places from 1 on below m whose number is not 0. -/
def imF (L : List Int) (b0 : Nat) : Nat → Nat
  | 0 => b0
  | m + 1 => if 0 < m ∧ L.getD m 0 ≠ 0 then min (imF L b0 m) (pop6 m) else imF L b0 m
def imV (s : ByteArray) : Int := ((imF (spS' s) ((inpI s).toNat + 1) s.size : Nat) : Int) - 1
theorem inpI_some {s : ByteArray} {k : Nat} (h : inpN s = some k) : inpI s = k := by unfold inpI; rw [h]
set_option maxRecDepth 20000 in
set_option maxHeartbeats 3200000 in
theorem immunityOf_any (s : ByteArray) (w : World) (hs : s.size ≤ maxLen) : Calls Tryd.prog 35 #[.string s] w (RetVal w (isT s) (tabV s (imV s))) := by
  cases ht : isT s with
  | false =>
    rw [show tabV s (imV s) = 0 by unfold tabV; rw [ht]; rfl]
    have HT := Lib.hid ht
    clear ht
    go_enter Tryd.func35, Tryd.ntmps35
    go_wp2_with fail
    refine (isTable_any s _ hs).mono ?_
    rintro e w1 ⟨rfl, hb1⟩
    rw [HT.out]
    go_wp2_with fail
    go_ret2
    exact ⟨rfl, hb1⟩
  | true =>
    rw [show tabV s (imV s) = imV s by unfold tabV; rw [ht]; rfl]
    obtain ⟨k, hi, hk, hsz, hB⟩ := isT_iff ht
    have hs64 : s.size ≤ 64 := by have := pow_le_64 k hk; omega
    have hv : imV s = ((imF (spS' s) (k + 1) s.size : Nat) : Int) - 1 := by unfold imV; rw [inpI_some hi]; rfl
    have HC := Lib.hid (fun w => spectrum_any s k w hk hsz hB)
    have HI := Lib.hid (fun w => inputs_any s k w hk hsz)
    have hln := spS'_len s
    obtain ⟨L, hL⟩ : ∃ L, spS' s = L := ⟨_, rfl⟩
    obtain ⟨V, hV⟩ : ∃ V, imV s = V := ⟨_, rfl⟩
    rw [hL] at HC hv hln
    rw [hV] at hv ⊢
    have HT := Lib.hid (And.intro ht (And.intro hv hln))
    clear ht hi hsz hB hv hL hV hln
    go_enter Tryd.func35, Tryd.ntmps35
    go_wp2_with fail
    refine (isTable_any s _ hs).mono ?_
    rintro e w1 ⟨rfl, hb1⟩
    rw [HT.out.1]
    have Hb1 := Lib.hid hb1
    clear hb1
    go_wp2_with fail
    refine (HI.out _).mono ?_
    rintro e w2 ⟨rfl, rfl⟩
    have hk1 : ((k : Nat) : Int) + 1 = ((k + 1 : Nat) : Int) := by omega
    obtain ⟨b0, hb0⟩ : ∃ b0, k + 1 = b0 := ⟨_, rfl⟩
    have hb7 : b0 ≤ 7 := by omega
    rw [hb0] at hk1 HT
    clear hb0
    go_wp2_with fail
    refine (HC.out _).mono ?_
    rintro e w2 ⟨ad, c, rfl, hown, hb2⟩
    rw [HT.out.2.2] at hown ⊢
    have HB := Lib.hid (bthen Hb1.out hb2)
    have HO := Lib.hid (IsInts.of_own hown)
    clear hown hb2 Hb1 HC HI
    go_wp2
    go_loopw [16, 4] (fun i be wr => ∃ (m b : Nat), m ≤ s.size ∧ b ≤ 7 ∧ i = .int .i64 (m : Nat) ∧ be = .int .i64 (b : Nat) ∧ Hid (imF L b0 m = b) ∧ wr = w2) (fun i _ _ => s.size - (intOf i).toNat)
    case atStart => exact ⟨0, b0, Nat.zero_le _, hb7, rfl, rfl, Lib.hid rfl, rfl⟩
    case round =>
      obtain ⟨m, b, hm, hbb, rfl, rfl, HN, rfl⟩ := hrel
      by_cases hlt : m < s.size
      · obtain ⟨bl, off, had, hc⟩ := HO.out.at hlt
        subst had
        have hm0 : (0:Int) ≤ (m:Int) := by omega
        have hmi : (m:Int) < (s.size:Int) := by omega
        have hst : imF L b0 (m + 1) = if 0 < m ∧ L.getD m 0 ≠ 0 then min (imF L b0 m) (pop6 m) else imF L b0 m := rfl
        rw [HN.out] at hst
        obtain ⟨z, hzz⟩ : ∃ z, L.getD m 0 = z := ⟨_, rfl⟩
        rw [hzz] at hc hst
        have HS := Lib.hid hst
        clear hst hzz
        by_cases hmz : 0 < m
        · have hmzi : (0:Int) < (m:Int) := by omega
          by_cases hz : z = 0
          · have HN2 := Lib.hid (show imF L b0 (m + 1) = b by rw [HS.out, if_neg (fun h => h.2 hz)])
            subst hz
            go_wp2
            go_roundw
            case rel => exact ⟨m + 1, b, by omega, hbb, by go_num, rfl, HN2, trivial⟩
            case measure => simp [intOf]; omega
          · have HW := Lib.hid (fun w => weight_any m w (by omega))
            have hp6 := (pop6_step m (by omega)).2
            have hst2 : imF L b0 (m + 1) = min b (pop6 m) := by rw [HS.out, if_pos ⟨hmz, hz⟩]
            obtain ⟨p, hp⟩ : ∃ p, pop6 m = p := ⟨_, rfl⟩
            rw [hp] at HW hst2 hp6
            obtain ⟨q, hq⟩ : ∃ q, min b p = q := ⟨_, rfl⟩
            have hqi : min (b : Int) (p : Int) = ((q : Nat) : Int) := by omega
            have hq7 : q ≤ 7 := by omega
            rw [hq] at hst2
            have HN2 := Lib.hid hst2
            clear hp hq hst2
            go_wp2_with (first | (go_at_call 77; refine (HW.out _).mono ?_; rintro e w' ⟨rfl, rfl⟩))
            go_roundw
            case rel => exact ⟨m + 1, q, by omega, hq7, by go_num, rfl, HN2, trivial⟩
            case measure => simp [intOf]; omega
        · have HN2 := Lib.hid (show imF L b0 (m + 1) = b by rw [HS.out, if_neg (fun h => hmz h.1)])
          have hmz0 : ¬ (0:Int) < (m:Int) := by omega
          go_wp2
          go_roundw
          case rel => exact ⟨m + 1, b, by omega, hbb, by go_num, rfl, HN2, trivial⟩
          case measure => simp [intOf]; omega
      · obtain rfl : m = s.size := by omega
        have HV := Lib.hid (show ((b : Nat) : Int) - 1 = V by rw [HT.out.2.1, HN.out])
        go_wp2
        go_ret2
        exact ⟨by rw [← HV.out]; rfl, HB.out⟩
end Go.Proofs.YtflgooogiceliaaDoor

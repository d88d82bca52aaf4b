import Derived.Test.YtflgooogiceliaaDoorSpecS
import Derived.Test.YtflgooogiceliaaDoorFixed
/- The greatest number of a spectrum and where it stands: the program's walk, the reference's, and the laws FnExactNearestSum, FnExactNonlinearityOf, FnExactBalanceOf. Condition: the text is shorter than the model's greatest length. -/
namespace Go.Proofs.YtflgooogiceliaaDoor
open Go.RowKit
set_option linter.unusedVariables false

/-- What stands first with the greatest size among the first m numbers: its place, whether it is below zero, its size. -/
def nrA (L : List Int) : Nat → Nat × Int × Int
  | 0 => (0, 0, -1)
  | m + 1 => if (nrA L m).2.2 < ((L.getD m 0).natAbs : Int) then (m, (if L.getD m 0 < 0 then 1 else 0), ((L.getD m 0).natAbs : Int)) else nrA L m
theorem nrA_ok (L : List Int) (n : Nat) (hL : ∀ m, (L.getD m 0).natAbs ≤ n) : ∀ m, -1 ≤ (nrA L m).2.2 ∧ (nrA L m).2.2 ≤ n ∧ (0 < m → (nrA L m).1 < m ∧ (nrA L m).2.1 = if L.getD (nrA L m).1 0 < 0 then 1 else 0)
  | 0 => by simp [nrA]
  | m + 1 => by
    obtain ⟨h1, h2, h3⟩ := nrA_ok L n hL m
    have h4 := hL m
    by_cases h : (nrA L m).2.2 < ((L.getD m 0).natAbs : Int)
    · have e : nrA L (m + 1) = (m, (if L.getD m 0 < 0 then 1 else 0), ((L.getD m 0).natAbs : Int)) := by rw [nrA, if_pos h]
      rw [e]
      refine ⟨?_, ?_, fun _ => ⟨?_, rfl⟩⟩
      · show (-1 : Int) ≤ ((L.getD m 0).natAbs : Int); omega
      · show ((L.getD m 0).natAbs : Int) ≤ n; omega
      · show m < m + 1; omega
    · have e : nrA L (m + 1) = nrA L m := by rw [nrA, if_neg h]
      rw [e]
      refine ⟨h1, h2, fun _ => ?_⟩
      cases m with
      | zero => exact absurd (show (nrA L 0).2.2 < _ by show (-1 : Int) < _; omega) h
      | succ m => exact ⟨by have := (h3 (by omega)).1; omega, (h3 (by omega)).2⟩
def nrS (s : ByteArray) : Nat × Int × Int := nrA (spS' s) s.size
theorem spS'_abs (s : ByteArray) (m : Nat) : ((spS' s).getD m 0).natAbs ≤ s.size := by
  by_cases h : m < s.size
  · rw [spS'_at h]
    have := csum_le (c := spS m) (f := sgF s) (fun x => spS_1 m x) (sgF_or s) s.size
    omega
  · simp [List.getD, List.getElem?_eq_none (show (spS' s).length ≤ m by rw [spS'_len]; omega)]
/-- A call's answer: three numbers. -/
def Ret3 (w : World) (x y z : Int) (e : Ending) (w' : World) : Prop := e = .returned (.tuple #[.int .i64 x, .int .i64 y, .int .i64 z]) ∧ Below w.heap.size w w'
def nrD (s : ByteArray) : Int := ((s.size : Int) - (nrS s).2.2) / 2
set_option maxRecDepth 20000 in
set_option maxHeartbeats 3200000 in
theorem nearestSum_any (s : ByteArray) (k : Nat) (w : World) (hk : k < 7) (hs : s.size = 2 ^ k) (hb : isB s = true) :
    Calls Tryd.prog 76 #[.string s] w (Ret3 w ((nrS s).1 : Nat) (nrS s).2.1 (nrD s)) := by
  have hsz : s.size ≤ 64 := by have := pow_le_64 k hk; omega
  have hs1 : 1 ≤ s.size := by rw [hs]; exact Nat.one_le_two_pow
  have hC := spectrum_any s k w hk hs hb
  have hab := spS'_abs s
  have hln := spS'_len s
  have hnr : nrS s = nrA (spS' s) s.size := rfl
  have hnd : nrD s = ((s.size : Int) - (nrS s).2.2) / 2 := rfl
  have hok := nrA_ok (spS' s) s.size hab
  obtain ⟨L, hL⟩ : ∃ L, spS' s = L := ⟨_, rfl⟩
  obtain ⟨A, hA⟩ : ∃ A, nrS s = A := ⟨_, rfl⟩
  obtain ⟨D, hD⟩ : ∃ D, nrD s = D := ⟨_, rfl⟩
  rw [hL] at hC hab hln hnr hok
  rw [hA] at hnr hnd ⊢
  rw [hD] at hnd ⊢
  have HAT := Lib.hid (And.intro hab (And.intro hln (And.intro hnr (And.intro hnd hok))))
  have HC := Lib.hid hC
  clear hab hln hnr hnd hok hC hL hA hD hs hb
  go_enter Tryd.func76, Tryd.ntmps76
  go_wp2_with fail
  refine (HC.out).mono ?_
  rintro e w1 ⟨ad, c, rfl, hown, hbw⟩
  rw [HAT.out.2.1] at hown ⊢
  have HB := Lib.hid hbw
  have HO := Lib.hid (IsInts.of_own hown)
  clear hown hbw
  go_wp2
  go_loopw [15, 5, 6] (fun i at_ be wr => ∃ (m a : Nat) (f b : Int), m ≤ s.size ∧ a < s.size ∧ i = .int .i64 (m : Nat) ∧ at_ = .int .i64 (a : Nat) ∧ be = .int .i64 b ∧ -1 ≤ b ∧ b ≤ s.size ∧ Hid (nrA L m = (a, f, b)) ∧ wr = w1) (fun i _ _ _ => s.size - (intOf i).toNat)
  case atStart => exact ⟨0, 0, 0, -1, Nat.zero_le _, by omega, rfl, rfl, rfl, by omega, by omega, Lib.hid rfl, rfl⟩
  case round =>
    obtain ⟨m, a, f, b, hm, ha, rfl, rfl, rfl, hb1, hb2, HN, rfl⟩ := hrel
    by_cases hlt : m < s.size
    · obtain ⟨bl, off, had, hc⟩ := HO.out.at hlt
      subst had
      have hm0 : (0:Int) ≤ (m:Int) := by omega
      have hmi : (m:Int) < (s.size:Int) := by omega
      have hz := HAT.out.1 m
      have hst : nrA L (m + 1) = if (nrA L m).2.2 < ((L.getD m 0).natAbs : Int) then (m, (if L.getD m 0 < 0 then 1 else 0), ((L.getD m 0).natAbs : Int)) else nrA L m := rfl
      rw [HN.out] at hst
      obtain ⟨z, hzz⟩ : ∃ z, L.getD m 0 = z := ⟨_, rfl⟩
      rw [hzz] at hc hz hst
      have hC := Lib.hid (fun w => sizeT_any z w (by omega) (by omega))
      obtain ⟨ab, hab⟩ : ∃ ab, z.natAbs = ab := ⟨_, rfl⟩
      rw [hab] at hC hz hst
      have HS := Lib.hid hst
      clear hst hzz hab
      by_cases hlt2 : b < (ab : Int)
      · have HN2 := Lib.hid (show nrA L (m + 1) = (m, (if z < 0 then 1 else 0), (ab : Int)) by rw [HS.out, if_pos hlt2])
        go_wp2_with (first | (go_at_call 80; refine (hC.out _).mono ?_; rintro e w' ⟨rfl, rfl⟩))
        go_roundw
        case rel => exact ⟨m + 1, m, _, (ab : Int), by omega, hlt, by go_num, rfl, rfl, by omega, by omega, HN2, trivial⟩
        case measure => simp [intOf]; omega
      · have HN2 := Lib.hid (show nrA L (m + 1) = (a, f, b) by rw [HS.out, if_neg hlt2])
        go_wp2_with (first | (go_at_call 80; refine (hC.out _).mono ?_; rintro e w' ⟨rfl, rfl⟩))
        go_roundw
        case rel => exact ⟨m + 1, a, f, b, by omega, ha, by go_num, rfl, rfl, hb1, hb2, HN2, trivial⟩
        case measure => simp [intOf]; omega
    · obtain rfl : m = s.size := by omega
      obtain ⟨bl, off, had, hc⟩ := HO.out.at ha
      subst had
      have ha0 : (0:Int) ≤ (a:Int) := by omega
      have hai : (a:Int) < (s.size:Int) := by omega
      have hA : A = (a, f, b) := HAT.out.2.2.1.trans HN.out
      have hD : ((s.size : Int) - b) / 2 = D := by rw [HAT.out.2.2.2.1, hA]
      have hf := ((HAT.out.2.2.2.2 s.size).2.2 (by omega)).2
      rw [HN.out] at hf
      have hz := HAT.out.1 a
      obtain ⟨z, hzz⟩ : ∃ z, L.getD a 0 = z := ⟨_, rfl⟩
      rw [hzz] at hc hz
      have hf2 : f = if z < 0 then 1 else 0 := by rw [← hzz]; exact hf
      have HA := Lib.hid hA
      have hw : IntKind.i64.wrap ((s.size : Int) - b) = (s.size : Int) - b := IntWalk.i64_in _ (by omega)
      have ht : ((s.size : Int) - b).tdiv 2 = D := by rw [Int.tdiv_eq_ediv_of_nonneg (by omega)]; exact hD
      have hDb : 0 ≤ D ∧ D ≤ 64 := by omega
      clear hA hD hf hzz
      by_cases hzn : z < 0
      · rw [if_pos hzn] at hf2
        subst hf2
        go_wp2
        go_ret3
        exact ⟨by rw [HA.out]; rfl, HB.out⟩
      · rw [if_neg hzn] at hf2
        subst hf2
        go_wp2
        go_ret3
        exact ⟨by rw [HA.out]; rfl, HB.out⟩
end Go.Proofs.YtflgooogiceliaaDoor

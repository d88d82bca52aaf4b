import Derived.Test.YtlckamnadddlmaaGreatDoorOwnX
import Derived.Test.YtlckamnadddlmaaGreatDoorBinX
import Derived.Test.YtlckamnadddlmaaGreatDoorBitsX
import Derived.Test.YtlckamnadddlmaaGreatDoorShelf
import Derived.Deep.LoopGhost
import Derived.Deep.DeepCutAuto
/- Ways to choose, in the program and the reference. Condition: numbers up to 50. -/
namespace Go.Proofs.YtlckamnadddlmaaGreatDoor
open Go.RowKit
set_option linter.unusedVariables false

theorem pow_50 {n : Nat} (hn : n ≤ 50) : 2 ^ n ≤ 1125899906842624 := Nat.pow_le_pow_right (show 0 < 2 by omega) hn
theorem mulW_any (a b p : Int) (w : World) (ha : 0 ≤ a) (ha2 : a ≤ 1125899906842624) (hb : 0 ≤ b) (hb2 : b ≤ 1024) (hp : a * b = p) :
    Calls Tryz.prog 59 #[.int .u64 a, .int .u64 b] w fun e w' => e = .returned (.tuple #[.int .u64 0, .int .u64 p]) ∧ w' = w := by
  obtain ⟨x, rfl⟩ := Int.eq_ofNat_of_zero_le ha
  obtain ⟨y, rfl⟩ := Int.eq_ofNat_of_zero_le hb
  refine (Tryz.bits_Mul64 x y (by omega) (by omega) w).mono ?_
  rintro e w' ⟨rfl, rfl⟩
  have h1 : x * y ≤ 1125899906842624 * 1024 := Nat.mul_le_mul (by omega) (by omega)
  have h2 : x * y / 18446744073709551616 = 0 := Nat.div_eq_of_lt (by omega)
  have h3 : x * y % 18446744073709551616 = x * y := Nat.mod_eq_of_lt (by omega)
  rw [h2, h3, ← hp]
  exact ⟨by simp, rfl⟩
set_option maxRecDepth 100000 in
set_option maxHeartbeats 400000 in
theorem divW_any (p d Q : Int) (w : World) (hd : 1 ≤ d) (hd2 : d ≤ 1024) (hQ : 0 ≤ Q) (hQ2 : Q ≤ 1125899906842624) (hp : p = Q * d) :
    Calls Tryz.prog 60 #[.int .u64 0, .int .u64 p, .int .u64 d] w (Ret w (.tuple #[.int .u64 Q, .int .u64 0])) := by
  have hd0 : (d == 0) = false := by simp; omega
  have hle : ¬ d ≤ 0 := by omega
  have hpb : 0 ≤ p ∧ p ≤ 1152921504606846976 := by
    rw [hp]
    exact ⟨Int.mul_nonneg hQ (by omega), by
      have := Int.mul_le_mul hQ2 hd2 (by omega) (by omega)
      omega⟩
  have hdiv : Int.tdiv p d = Q := by rw [hp]; exact Int.mul_tdiv_cancel _ (by omega)
  have hmod : Int.tmod p d = 0 := by rw [hp]; exact Int.mul_tmod_left _ _
  have hdne : d ≠ 0 := by omega
  clear hp
  go_enter Tryz.func60, Tryz.ntmps60
  go_wp2_with fail
  go_quiet (fail)
  go_wp2
  go_ret2
  exact ⟨rfl, drewN_below _ _⟩
set_option maxHeartbeats 400000 in
theorem chooseW_any (n k : Nat) (w : World) (hn : n ≤ 50) (hkn : k ≤ n) :
    Calls Tryz.prog 45 #[.int .i64 (n : Nat), .int .i64 (k : Nat)] w (Ret w (.int .i64 (bin n k : Nat))) := by
  have hp := pow_50 hn
  have HB := Lib.hid (fun i => Nat.le_trans (bin_le_pow n i) hp)
  clear hp
  have hin : inR k 0 n = true := by unfold inR; simp; omega
  go_enter Tryz.func45, Tryz.ntmps45
  go_wp2_with fail
  refine (inRange_any _ _ _ _).mono ?_
  rintro e w1 ⟨rfl, rfl⟩
  rw [hin]
  obtain ⟨M, hM⟩ : ∃ M, min k (n - k) = M := ⟨_, rfl⟩
  have hbM : bin n M = bin n k := by
    rw [← hM]
    rcases Nat.le_total k (n - k) with h | h
    · rw [Nat.min_eq_left h]
    · rw [Nat.min_eq_right h, bin_symm hkn]
  have hmi : min (k:Int) ((n:Int) - (k:Int)) = (M:Int) := by omega
  have hMn : M ≤ n := by omega
  have HBM := Lib.hid hbM
  clear hbM hM
  go_wp2
  go_loopw [6, 5] (fun i x wr => ∃ q : Nat, q ≤ M ∧ i = .int .i64 ((q + 1 : Nat) : Int) ∧ x = .int .i64 (bin n q : Nat) ∧ Hid (Below w.heap.size w wr)) (fun i _ _ => M + 1 - (intOf i).toNat)
  case atStart => exact ⟨0, Nat.zero_le _, rfl, by rw [bin_zero]; rfl, Lib.hid (Below.refl _ _)⟩
  case round =>
    obtain ⟨q, hq, rfl, rfl, HQ⟩ := hrel
    by_cases hlt : q < M
    · have h1 := HB.out q
      have h2 := HB.out (q + 1)
      have hm : ((bin n q : Nat) : Int) * ((n:Int) - (q:Int)) = ((bin n (q + 1) : Nat) : Int) * ((q:Int) + 1) := by
        have := congrArg (fun x : Nat => (x : Int)) (bin_next (show q ≤ n by omega))
        simp only [Int.natCast_mul, Int.natCast_add, Int.natCast_sub (show q ≤ n by omega)] at this
        grind
      obtain ⟨X, hX⟩ : ∃ X, bin n q = X := ⟨_, rfl⟩
      obtain ⟨Y, hY⟩ : ∃ Y, bin n (q + 1) = Y := ⟨_, rfl⟩
      rw [hX, hY] at hm
      rw [hX] at h1
      rw [hY] at h2
      rw [hX]
      obtain ⟨Z, hZ⟩ : ∃ Z, (Y:Int) * ((q:Int) + 1) = Z := ⟨_, rfl⟩
      rw [hZ] at hm
      have HM := Lib.hid (And.intro hm (And.intro hZ hY))
      have hle1 : (q:Int) + 1 ≤ (M:Int) := by omega
      have hqn : (q:Int) + 1 ≤ (n:Int) := by omega
      have hn50 : (n:Int) ≤ 50 := by omega
      clear hm hZ hX hY
      rw [show ((q + 1 : Nat) : Int) = (q:Int) + 1 by omega]
      go_wp2_with fail
      refine (mulW_any _ _ Z _ (by omega) (by omega) (by omega) (by omega) (by rw [← HM.out.1]; congr 1; omega)).mono ?_
      rintro e w1 ⟨rfl, rfl⟩
      go_wp2_with fail
      refine (divW_any _ _ (Y:Int) _ (by omega) (by omega) (by omega) (by omega) HM.out.2.1.symm).mono ?_
      rintro e w2 ⟨rfl, hb2⟩
      have HQ2 := Lib.hid (bthen HQ.out hb2)
      clear hb2
      go_wp2
      go_roundw
      case rel => exact ⟨q + 1, by omega, by go_num, by rw [HM.out.2.2], HQ2⟩
      case measure => simp [intOf]; omega
    · obtain rfl : q = M := by omega
      have hle1 : ¬ (q:Int) + 1 ≤ (q:Int) := by omega
      rw [show ((q + 1 : Nat) : Int) = (q:Int) + 1 by omega]
      go_wp2
      go_ret
      exact ⟨by rw [← HBM.out]; rfl, HQ.out⟩
/-- The first j numbers of a row of ways to choose. -/
def binR (n j : Nat) : List Int := (List.range j).map fun i => ((bin n i : Nat) : Int)
theorem binR_len (n j : Nat) : (binR n j).length = j := by simp [binR]
theorem binR_at {n j i : Nat} (h : i < j) : (binR n j).getD i 0 = (bin n i : Nat) := by simp [binR, List.getD, h]
theorem binR_succ (n j : Nat) : binR n (j + 1) = binR n j ++ [((bin n j : Nat) : Int)] := by simp [binR, List.range_succ]
theorem GrowAt.one (w : World) (z : Int) : GrowAt w (w.alloc (.cells #[.int .i64 z] 2)) 2 (.slice (some ⟨w.heap.size, 0, none⟩) 1 1) 1 ([z].map (Value.int .i64)) :=
  ⟨⟨rfl, Or.inr ⟨w.heap.size, 1, _, rfl, Nat.le_refl _, heap_at_new _ _, Nat.le_refl _, by simp [maxLen], rfl, rfl⟩⟩, (Below.refl _ _).alloc (Nat.le_refl _) _⟩
theorem GrowAt.base {w w1 wr : World} {E : TypeId} {v : Value} {n : Nat} {xs : List Value} (hb : Below w.heap.size w w1) (h : GrowAt w1 wr E v n xs) : GrowAt w wr E v n xs := ⟨own_mono h.1 hb.size, bthen hb h.2⟩
theorem GrowAt.i64 {w wr w6 : World} {v v' : Value} {n : Nat} {xs : List Int} {z : Int} {o : Obj} (h : GrowAt w wr 2 v n (xs.map (Value.int .i64))) (hown : w6.ownsRow w.heap.size 2 1 v' (n + 1) (xs.map (Value.int .i64) ++ [.int .i64 z])) (hg : (wr.alloc o).grownBy w6 v.ownBlock) :
    GrowAt w w6 2 v' (n + 1) ((xs ++ [z]).map (Value.int .i64)) := by
  rw [List.map_append]
  exact (h.alloc o).push hown hg
end Go.Proofs.YtlckamnadddlmaaGreatDoor

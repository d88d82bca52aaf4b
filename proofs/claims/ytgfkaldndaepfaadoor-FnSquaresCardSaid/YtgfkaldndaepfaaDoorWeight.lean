import Derived.Test.YtgfkaldndaepfaaDoorNearS
import Derived.Test.YtgfkaldndaepfaaDoorInputs
/- How many bits of a small number are 1: the library's count, the program's, the reference's. -/
namespace Go.Proofs.YtgfkaldndaepfaaDoor
open Go.RowKit
set_option linter.unusedVariables false

theorem ones64 (x : Nat) (w : World) (hx : x < 64) : Calls Tryd.prog 38 #[.int .u64 (x : Nat)] w fun e w' => e = .returned (.int .i64 (pop6 x : Nat)) ∧ w' = w := by
  go_enter Tryd.func38, Tryd.ntmps38
  go_wp2
  go_ret
  refine ⟨congrArg (fun z => Ending.returned (.int .i64 z)) ?_, rfl⟩
  revert hx
  revert x
  decide +kernel
theorem weight_any (x : Nat) (w : World) (hx : x < 64) : Calls Tryd.prog 27 #[.int .i64 (x : Nat)] w fun e w' => e = .returned (.int .i64 (pop6 x : Nat)) ∧ w' = w := by
  have HC := Lib.hid (fun w => ones64 x w hx)
  go_enter Tryd.func27, Tryd.ntmps27
  go_wp2_with fail
  refine (HC.out _).mono ?_
  rintro e w' ⟨rfl, rfl⟩
  go_wp2
  go_ret
  exact ⟨rfl, rfl⟩
theorem l04Weight_any (m : Nat) (w : World) (hm : m < 64) : Calls Tryd.prog 40 #[.int .i64 (m : Nat)] w fun e w' => e = .returned (.int .i64 (pop6 m : Nat)) ∧ w' = w := by
  obtain ⟨P, hP⟩ : ∃ P, pop6 m = P := ⟨_, rfl⟩
  have hP6 := (pop6_step m hm).2
  rw [hP] at hP6 ⊢
  have HP := Lib.hid hP
  clear hP
  go_enter Tryd.func40, Tryd.ntmps40
  go_wp2
  go_loopw [0, 3] (fun n p wr => ∃ (v b : Nat), v < 64 ∧ b ≤ P ∧ n = .int .i64 (v : Nat) ∧ p = .int .i64 (b : Nat) ∧ wr = w ∧ Hid (b + pop6 v = P)) (fun n _ _ => (intOf n).toNat)
  case atStart => exact ⟨m, 0, hm, by omega, rfl, rfl, rfl, Lib.hid (by rw [HP.out]; omega)⟩
  case round =>
    clear HP
    obtain ⟨v, b, hv, hb, rfl, rfl, rfl, HX⟩ := hrel
    by_cases h0 : 0 < v
    · have h0i : (0:Int) < (v:Int) := by omega
      have hps := (pop6_step v hv).1
      obtain ⟨r, hr⟩ : ∃ r, v % 2 = r := ⟨_, rfl⟩
      have hand : bits .and .i64 (v : Int) 1 = ((r : Nat) : Int) := by
        rw [← hr]
        have := and_i64 v 1 (by omega) (by omega)
        rw [show v &&& 1 = v % 2 from Nat.and_one_is_mod v] at this
        exact this
      obtain ⟨d, hd⟩ : ∃ d, v / 2 = d := ⟨_, rfl⟩
      have hdi : (v : Int) / 2 = ((d : Nat) : Int) := by omega
      rw [hr, hd] at hps
      have h1 := HX.out
      rw [hps] at h1
      have hbP : b + r ≤ P := by omega
      have HX2 := Lib.hid (show (b + r) + pop6 d = P by omega)
      have hd64 : d < 64 := by omega
      have hdv : d < v := by omega
      clear hr hd hps h1
      go_wp2
      go_roundw
      case rel => exact ⟨d, b + r, hd64, hbP, by go_num, by go_num, trivial, HX2⟩
      case measure => simp [intOf]; omega
    · obtain rfl : v = 0 := by omega
      have HY := Lib.hid (show (b : Int) = (P : Int) by
        have h1 := HX.out
        have : pop6 0 = 0 := by decide
        omega)
      go_wp2
      go_ret
      exact ⟨by rw [← HY.out]; rfl, rfl⟩
end Go.Proofs.YtgfkaldndaepfaaDoor

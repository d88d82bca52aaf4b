import Derived.Test.YtpineiocjaajnaaDoorSrc
import Derived.Test.YtpineiocjaajnaaDoorLists
import Derived.Test.YtpineiocjaajnaaDoorWts
import Derived.Deep.LoopGhost
/- What the laws draw: numbers, weights; sums of lists. -/
namespace Go.Proofs.YtpineiocjaajnaaDoor
open Go.RowKit
set_option linter.unusedVariables false

theorem r8Long_any (a a' : Option Addr) (len cap len' cap' : Nat) (w : World) :
    Calls Tryd.prog 19 #[.slice a len cap, .slice a' len' cap'] w fun e w' => e = .returned (.bool (decide (48 < len) || decide (48 < len'))) ∧ w = w' := by
  by_cases h1 : 48 < len
  · have k1 : (48:Int) < (len:Int) := by omega
    go_enter Tryd.func19, Tryd.ntmps19
    go_wp2
    go_ret
    exact ⟨by rw [decide_eq_true h1]; rfl, rfl⟩
  · have k1 : ¬ (48:Int) < (len:Int) := by omega
    by_cases h2 : 48 < len'
    · have k2 : (48:Int) < (len':Int) := by omega
      go_enter Tryd.func19, Tryd.ntmps19
      go_wp2
      go_ret
      exact ⟨rfl, rfl⟩
    · have k2 : ¬ (48:Int) < (len':Int) := by omega
      go_enter Tryd.func19, Tryd.ntmps19
      go_wp2
      go_ret
      exact ⟨rfl, rfl⟩
theorem r8At_any (a : Option Addr) (len cap : Nat) (zs : List Int) (k : Nat) (n : Int) (w : World) (hx : IsU8s w a len zs) :
    Calls Tryd.prog 20 #[.slice a len cap, .int .i64 (k : Nat), .int .i64 n] w fun e w' => ∃ x, e = .returned (.int .i64 x) ∧ 0 ≤ x ∧ (x < n ∨ x = 0) ∧ w = w' := by
  by_cases h1 : n ≤ 1
  · go_enter Tryd.func20, Tryd.ntmps20
    go_wp2
    go_ret
    exact ⟨0, rfl, by omega, Or.inr rfl, rfl⟩
  · by_cases h2 : k < len
    · obtain ⟨b, off, ha, hc⟩ := hx.at h2
      subst ha
      have hbd := hx.bd k
      obtain ⟨x, hxe⟩ : ∃ x, zs.getD k 0 = x := ⟨_, rfl⟩
      rw [hxe] at hc hbd
      clear hx hxe
      have Hr := Lib.hid (show 0 ≤ x % n ∧ x % n < n from ⟨Int.emod_nonneg _ (by omega), Int.emod_lt_of_pos _ (by omega)⟩)
      have k0 : (0:Int) ≤ (k:Int) := by omega
      have k1 : (k:Int) < (len:Int) := by omega
      have n0 : ¬ n = 0 := by omega
      have n1 : ¬ n = -1 := by omega
      go_enter Tryd.func20, Tryd.ntmps20
      go_wp2
      go_ret
      exact ⟨_, rfl, Hr.out.1, Or.inl Hr.out.2, rfl⟩
    · have k1 : ¬ (k:Int) < (len:Int) := by omega
      go_enter Tryd.func20, Tryd.ntmps20
      go_wp2
      go_ret
      exact ⟨0, rfl, by omega, Or.inr rfl, rfl⟩
end Go.Proofs.YtpineiocjaajnaaDoor

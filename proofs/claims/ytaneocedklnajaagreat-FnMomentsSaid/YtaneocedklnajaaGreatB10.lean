import Derived.Test.YtaneocedklnajaaGreatSrc
import Derived.Test.YtaneocedklnajaaGreatFrX
import Derived.Test.YtaneocedklnajaaGreatFrac
/- What laws of the fourth kind draw and ask: numbers from bytes, whether a number is in a list, fractions made. No condition but bounds. -/
namespace Go.Proofs.YtaneocedklnajaaGreat
open Go.RowKit
set_option linter.unusedVariables false

theorem b10Long_any (a a' : Option Addr) (len cap len' cap' : Nat) (w : World) :
    Calls Tryz.prog 12 #[.slice a len cap, .slice a' len' cap'] w fun e w' => e = .returned (.bool (decide (1048576 < len) || decide (1048576 < len'))) ∧ w = w' := by
  by_cases h1 : 1048576 < len
  · have k1 : (1048576:Int) < (len:Int) := by omega
    go_enter Tryz.func12, Tryz.ntmps12
    go_wp2
    go_ret
    exact ⟨by rw [decide_eq_true h1]; rfl, rfl⟩
  · have k1 : ¬ (1048576:Int) < (len:Int) := by omega
    by_cases h2 : 1048576 < len'
    · have k2 : (1048576:Int) < (len':Int) := by omega
      go_enter Tryz.func12, Tryz.ntmps12
      go_wp2
      go_ret
      exact ⟨rfl, rfl⟩
    · have k2 : ¬ (1048576:Int) < (len':Int) := by omega
      go_enter Tryz.func12, Tryz.ntmps12
      go_wp2
      go_ret
      exact ⟨rfl, rfl⟩
theorem b10At_any (a : Option Addr) (len cap : Nat) (zs : List Int) (k : Nat) (n : Int) (w : World) (hx : IsU8s w a len zs) (hk : k ≤ 1000) :
    Calls Tryz.prog 15 #[.slice a len cap, .int .i64 (k : Nat), .int .i64 n] w fun e w' => ∃ x, e = .returned (.int .i64 x) ∧ 0 ≤ x ∧ (x < n ∨ x = 0) ∧ w = w' := by
  by_cases h1 : n ≤ 1
  · go_enter Tryz.func15, Tryz.ntmps15
    go_wp2
    go_ret
    exact ⟨0, rfl, by omega, Or.inr rfl, rfl⟩
  · have n0 : ¬ n = 0 := by omega
    have n1 : ¬ n = -1 := by omega
    by_cases h2 : k < len
    · obtain ⟨b, off, ha, hc⟩ := hx.at h2
      subst ha
      have hbd := hx.bd k
      obtain ⟨x, hxe⟩ : ∃ x, zs.getD k 0 = x := ⟨_, rfl⟩
      rw [hxe] at hc hbd
      clear hx hxe
      have Hr := Lib.hid (show 0 ≤ x % n ∧ x % n < n from ⟨Int.emod_nonneg _ (by omega), Int.emod_lt_of_pos _ (by omega)⟩)
      have k0 : (0:Int) ≤ (k:Int) := by omega
      have k1 : (k:Int) < (len:Int) := by omega
      go_enter Tryz.func15, Tryz.ntmps15
      go_wp2
      go_ret
      exact ⟨_, rfl, Hr.out.1, Or.inl Hr.out.2, rfl⟩
    · have k1 : ¬ (k:Int) < (len:Int) := by omega
      have k0 : (0:Int) ≤ (k:Int) := by omega
      have Hr := Lib.hid (show 0 ≤ ((k : Int) * 37 + 11) % n ∧ ((k : Int) * 37 + 11) % n < n from ⟨Int.emod_nonneg _ (by omega), Int.emod_lt_of_pos _ (by omega)⟩)
      go_enter Tryz.func15, Tryz.ntmps15
      go_wp2
      go_ret
      exact ⟨_, rfl, Hr.out.1, Or.inl Hr.out.2, rfl⟩
end Go.Proofs.YtaneocedklnajaaGreat

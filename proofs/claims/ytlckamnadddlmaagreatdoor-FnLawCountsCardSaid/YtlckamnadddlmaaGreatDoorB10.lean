import Derived.Test.YtlckamnadddlmaaGreatDoorSrc
import Derived.Test.YtlckamnadddlmaaGreatDoorFrX
import Derived.Test.YtlckamnadddlmaaGreatDoorFrac
/- What laws of the fourth kind draw and ask: numbers from bytes, whether a number is in a list, fractions made. No condition but bounds. -/
namespace Go.Proofs.YtlckamnadddlmaaGreatDoor
open Go.RowKit
set_option linter.unusedVariables false

theorem b10Long_any (a a' : Option Addr) (len cap len' cap' : Nat) (w : World) :
    Calls Tryz.prog 4 #[.slice a len cap, .slice a' len' cap'] w fun e w' => e = .returned (.bool (decide (1048576 < len) || decide (1048576 < len'))) ∧ w = w' := by
  by_cases h1 : 1048576 < len
  · have k1 : (1048576:Int) < (len:Int) := by omega
    go_enter Tryz.func4, Tryz.ntmps4
    go_wp2
    go_ret
    exact ⟨by rw [decide_eq_true h1]; rfl, rfl⟩
  · have k1 : ¬ (1048576:Int) < (len:Int) := by omega
    by_cases h2 : 1048576 < len'
    · have k2 : (1048576:Int) < (len':Int) := by omega
      go_enter Tryz.func4, Tryz.ntmps4
      go_wp2
      go_ret
      exact ⟨rfl, rfl⟩
    · have k2 : ¬ (1048576:Int) < (len':Int) := by omega
      go_enter Tryz.func4, Tryz.ntmps4
      go_wp2
      go_ret
      exact ⟨rfl, rfl⟩
theorem b10At_any (a : Option Addr) (len cap : Nat) (zs : List Int) (k : Nat) (n : Int) (w : World) (hx : IsU8s w a len zs) (hk : k ≤ 1000) :
    Calls Tryz.prog 5 #[.slice a len cap, .int .i64 (k : Nat), .int .i64 n] w fun e w' => ∃ x, e = .returned (.int .i64 x) ∧ 0 ≤ x ∧ (x < n ∨ x = 0) ∧ w = w' := by
  by_cases h1 : n ≤ 1
  · go_enter Tryz.func5, Tryz.ntmps5
    go_wp2
    go_ret
    exact ⟨0, rfl, by omega, Or.inr rfl, rfl⟩
  · have n0 : ¬ n = 0 := by omega
    have n1 : ¬ n = -1 := by omega
    by_cases h2 : k < len
    · obtain ⟨b, off, ha, hc⟩ := hx.at h2
      subst ha
      have hbd := hx.bd k
      obtain ⟨x, hxe⟩ : ∃ x, zs.getD k 0 = x := ⟨_, rfl⟩
      rw [hxe] at hc hbd
      clear hx hxe
      have Hr := Lib.hid (show 0 ≤ x % n ∧ x % n < n from ⟨Int.emod_nonneg _ (by omega), Int.emod_lt_of_pos _ (by omega)⟩)
      have k0 : (0:Int) ≤ (k:Int) := by omega
      have k1 : (k:Int) < (len:Int) := by omega
      go_enter Tryz.func5, Tryz.ntmps5
      go_wp2
      go_ret
      exact ⟨_, rfl, Hr.out.1, Or.inl Hr.out.2, rfl⟩
    · have k1 : ¬ (k:Int) < (len:Int) := by omega
      have k0 : (0:Int) ≤ (k:Int) := by omega
      have Hr := Lib.hid (show 0 ≤ ((k : Int) * 37 + 11) % n ∧ ((k : Int) * 37 + 11) % n < n from ⟨Int.emod_nonneg _ (by omega), Int.emod_lt_of_pos _ (by omega)⟩)
      go_enter Tryz.func5, Tryz.ntmps5
      go_wp2
      go_ret
      exact ⟨_, rfl, Hr.out.1, Or.inl Hr.out.2, rfl⟩
theorem specMake_any (p q : Nat) (w : World) (hp : p ≤ 1000000000000000000) (hq : q ≤ 1000000000000000000) (h0 : 0 < q) :
    Calls Tryz.prog 18 #[.int .i64 (p : Nat), .int .i64 (q : Nat)] w fun e w' => e = .returned (.tuple #[.agg #[.int .i64 (mkRat ((p : Nat) : Int) q).num, .int .i64 ((mkRat ((p : Nat) : Int) q).den : Nat)], .bool true]) ∧ Below w.heap.size w w' := by
  have HF := Lib.hid (fun w => l01FMake_any (p : Nat) q w (by omega) (by omega) (by omega) h0)
  have e1 : inR (p : Nat) (-1000000000000000000) 1000000000000000000 = true := by simp [inR]; omega
  have e2 : inR (q : Nat) (-1000000000000000000) 1000000000000000000 = true := by simp [inR]; omega
  obtain ⟨P, hP⟩ : ∃ P, (mkRat ((p : Nat) : Int) q).num = P := ⟨_, rfl⟩
  obtain ⟨Q, hQ⟩ : ∃ Q, (mkRat ((p : Nat) : Int) q).den = Q := ⟨_, rfl⟩
  rw [hP, hQ] at HF ⊢
  have HE := Lib.hid (And.intro e1 e2)
  have hq0 : ¬ ((q : Nat) : Int) = 0 := by omega
  have hA : Below w.heap.size w (w.alloc (.cells #[.int .i64 0, .int .i64 0] 44)) := (Below.refl _ w).alloc (Nat.le_refl _) _
  have H0 := Lib.hid (And.intro (C2.new w 44 (.int .i64 0) (.int .i64 0)) hA)
  clear hP hQ e1 e2 hA
  go_enter Tryz.func18, Tryz.ntmps18
  go_wp2_with fail
  refine (l00InQ _ _ _ _).mono ?_
  rintro e w' ⟨rfl, rfl⟩
  rw [HE.out.1]
  go_wp2_with fail
  refine (l00InQ _ _ _ _).mono ?_
  rintro e w' ⟨rfl, rfl⟩
  rw [HE.out.2]
  obtain ⟨wA, hwA⟩ : ∃ w', w.alloc (.cells #[.int .i64 0, .int .i64 0] 44) = w' := ⟨_, rfl⟩
  rw [hwA] at H0 ⊢
  clear hwA
  go_wp2_with fail
  refine (HF.out _).mono ?_
  rintro e w2 ⟨rfl, hb⟩
  have H2 := Lib.hid (And.intro (H0.out.1.all hb) (bthen H0.out.2 hb))
  clear hb
  obtain ⟨y0, y1, y2, y3, y4⟩ := H2.out.1
  go_wp2_with fail
  refine bodyPost_ret (v := .tuple #[.agg #[.int .i64 P, .int .i64 (Q : Nat)], .bool true]) (by simp [results, Tryz.results18, go_sem, *]) rfl ⟨rfl, ?_⟩
  exact below_two H2.out.2 (by omega) _ _
end Go.Proofs.YtlckamnadddlmaaGreatDoor

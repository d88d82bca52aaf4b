import Derived.Test.YtpineiocjaajnaaSrc
import Derived.Test.YtpineiocjaajnaaFrX
import Derived.Test.YtpineiocjaajnaaFrac
/- What laws of the fourth kind draw and ask: numbers from bytes, whether a number is in a list, fractions made. No condition but bounds. -/
namespace Go.Proofs.Ytpineiocjaajnaa
open Go.RowKit
set_option linter.unusedVariables false

theorem b10Long_any (a a' : Option Addr) (len cap len' cap' : Nat) (w : World) :
    Calls Try.prog 18 #[.slice a len cap, .slice a' len' cap'] w fun e w' => e = .returned (.bool (decide (1048576 < len) || decide (1048576 < len'))) ∧ w = w' := by
  by_cases h1 : 1048576 < len
  · have k1 : (1048576:Int) < (len:Int) := by omega
    go_enter Try.func18, Try.ntmps18
    go_wp2
    go_ret
    exact ⟨by rw [decide_eq_true h1]; rfl, rfl⟩
  · have k1 : ¬ (1048576:Int) < (len:Int) := by omega
    by_cases h2 : 1048576 < len'
    · have k2 : (1048576:Int) < (len':Int) := by omega
      go_enter Try.func18, Try.ntmps18
      go_wp2
      go_ret
      exact ⟨rfl, rfl⟩
    · have k2 : ¬ (1048576:Int) < (len':Int) := by omega
      go_enter Try.func18, Try.ntmps18
      go_wp2
      go_ret
      exact ⟨rfl, rfl⟩
theorem b10At_any (a : Option Addr) (len cap : Nat) (zs : List Int) (k : Nat) (n : Int) (w : World) (hx : IsU8s w a len zs) (hk : k ≤ 1000) :
    Calls Try.prog 19 #[.slice a len cap, .int .i64 (k : Nat), .int .i64 n] w fun e w' => ∃ x, e = .returned (.int .i64 x) ∧ 0 ≤ x ∧ (x < n ∨ x = 0) ∧ w = w' := by
  by_cases h1 : n ≤ 1
  · go_enter Try.func19, Try.ntmps19
    go_wp2
    go_ret
    exact ⟨0, rfl, by omega, Or.inr rfl, rfl⟩
  · have n0 : ¬ n = 0 := by omega
    have n1 : ¬ n = -1 := by omega
    by_cases h2 : k < len
    · obtain ⟨b, off, ha, hc⟩ := hx.at h2
      subst ha
      have hbd := hx.bd k
      obtain ⟨x, hxe⟩ : ∃ x, zs.getD k 0 = x := ⟨_, rfl⟩
      rw [hxe] at hc hbd
      clear hx hxe
      have Hr := Lib.hid (show 0 ≤ x % n ∧ x % n < n from ⟨Int.emod_nonneg _ (by omega), Int.emod_lt_of_pos _ (by omega)⟩)
      have k0 : (0:Int) ≤ (k:Int) := by omega
      have k1 : (k:Int) < (len:Int) := by omega
      go_enter Try.func19, Try.ntmps19
      go_wp2
      go_ret
      exact ⟨_, rfl, Hr.out.1, Or.inl Hr.out.2, rfl⟩
    · have k1 : ¬ (k:Int) < (len:Int) := by omega
      have k0 : (0:Int) ≤ (k:Int) := by omega
      have Hr := Lib.hid (show 0 ≤ ((k : Int) * 37 + 11) % n ∧ ((k : Int) * 37 + 11) % n < n from ⟨Int.emod_nonneg _ (by omega), Int.emod_lt_of_pos _ (by omega)⟩)
      go_enter Try.func19, Try.ntmps19
      go_wp2
      go_ret
      exact ⟨_, rfl, Hr.out.1, Or.inl Hr.out.2, rfl⟩
theorem b10Has_any (a : Option Addr) (len cap : Nat) (xs : List Int) (z : Int) (w : World) (hx : IsInts w a len xs) (hl : len < 1000000) :
    Calls Try.prog 22 #[.slice a len cap, .int .i64 z] w fun e w' => e = .returned (.bool (decide (z ∈ xs))) ∧ w' = w := by
  have hlen := hx.1
  go_enter Try.func22, Try.ntmps22
  go_wp2
  go_loopw [5] (fun i wr => ∃ m : Nat, m ≤ len ∧ i = .int .i64 (m : Nat) ∧ Hid (∀ j, j < m → xs.getD j 0 ≠ z) ∧ wr = w) (fun i _ => len - (intOf i).toNat)
  case atStart => exact ⟨0, Nat.zero_le _, rfl, Lib.hid (fun j h => by omega), rfl⟩
  case round =>
    obtain ⟨m, hm, rfl, HF, rfl⟩ := hrel
    by_cases hlt : m < len
    · obtain ⟨b2, off2, rfl, hcm⟩ := hx.at hlt
      have hm0 : (0:Int) ≤ (m:Int) := by omega
      have hmi : (m:Int) < (len:Int) := by omega
      obtain ⟨x, hxx⟩ : ∃ x, xs.getD m 0 = x := ⟨_, rfl⟩
      rw [hxx] at hcm
      by_cases hxz : x = z
      · subst hxz
        have HM := Lib.hid (show x ∈ xs by rw [← hxx, getD_eq _ _ (by omega)]; exact List.getElem_mem _)
        clear hxx
        go_wp2
        go_ret
        exact ⟨by rw [decide_eq_true HM.out]; rfl, rfl⟩
      · have HN := Lib.hid (show ∀ j, j < m + 1 → xs.getD j 0 ≠ z from fun j hj => by
          by_cases e : j = m
          · rw [e, hxx]; exact hxz
          · exact HF.out j (by omega))
        clear hxx
        go_wp2
        go_roundw
        case rel => exact ⟨m + 1, by omega, by go_num, HN, trivial⟩
        case measure => simp [intOf]; omega
    · have HM := Lib.hid (show ¬ z ∈ xs from fun h => by
        obtain ⟨j, hj, rfl⟩ := List.getElem_of_mem h
        exact HF.out j (by omega) (getD_eq _ _ hj))
      go_wp2
      go_ret
      exact ⟨by rw [decide_eq_false HM.out]; rfl, rfl⟩
theorem specMake_any (p q : Nat) (w : World) (hp : p ≤ 1000000000000000000) (hq : q ≤ 1000000000000000000) (h0 : 0 < q) :
    Calls Try.prog 24 #[.int .i64 (p : Nat), .int .i64 (q : Nat)] w fun e w' => e = .returned (.tuple #[.agg #[.int .i64 (mkRat ((p : Nat) : Int) q).num, .int .i64 ((mkRat ((p : Nat) : Int) q).den : Nat)], .bool true]) ∧ Below w.heap.size w w' := by
  have HF := Lib.hid (fun w => l01FMake_any (p : Nat) q w (by omega) (by omega) (by omega) h0)
  have e1 : inR (p : Nat) (-1000000000000000000) 1000000000000000000 = true := by simp [inR]; omega
  have e2 : inR (q : Nat) (-1000000000000000000) 1000000000000000000 = true := by simp [inR]; omega
  obtain ⟨P, hP⟩ : ∃ P, (mkRat ((p : Nat) : Int) q).num = P := ⟨_, rfl⟩
  obtain ⟨Q, hQ⟩ : ∃ Q, (mkRat ((p : Nat) : Int) q).den = Q := ⟨_, rfl⟩
  rw [hP, hQ] at HF ⊢
  have HE := Lib.hid (And.intro e1 e2)
  have hq0 : ¬ ((q : Nat) : Int) = 0 := by omega
  have hA : Below w.heap.size w (w.alloc (.cells #[.int .i64 0, .int .i64 0] 33)) := (Below.refl _ w).alloc (Nat.le_refl _) _
  have H0 := Lib.hid (And.intro (C2.new w 33 (.int .i64 0) (.int .i64 0)) hA)
  clear hP hQ e1 e2 hA
  go_enter Try.func24, Try.ntmps24
  go_wp2_with fail
  refine (l00InQ _ _ _ _).mono ?_
  rintro e w' ⟨rfl, rfl⟩
  rw [HE.out.1]
  go_wp2_with fail
  refine (l00InQ _ _ _ _).mono ?_
  rintro e w' ⟨rfl, rfl⟩
  rw [HE.out.2]
  obtain ⟨wA, hwA⟩ : ∃ w', w.alloc (.cells #[.int .i64 0, .int .i64 0] 33) = w' := ⟨_, rfl⟩
  rw [hwA] at H0 ⊢
  clear hwA
  go_wp2_with fail
  refine (HF.out _).mono ?_
  rintro e w2 ⟨rfl, hb⟩
  have H2 := Lib.hid (And.intro (H0.out.1.all hb) (bthen H0.out.2 hb))
  clear hb
  obtain ⟨y0, y1, y2, y3, y4⟩ := H2.out.1
  go_wp2_with fail
  refine bodyPost_ret (v := .tuple #[.agg #[.int .i64 P, .int .i64 (Q : Nat)], .bool true]) (by simp [results, Try.results24, go_sem, *]) rfl ⟨rfl, ?_⟩
  exact below_two H2.out.2 (by omega) _ _
end Go.Proofs.Ytpineiocjaajnaa

import Derived.Test.YtohmnnpophompaaLawB
/- Searching in a list that grows, by halves. No condition but that the list grows. -/
namespace Go.Proofs.Ytohmnnpophompaa
open Go.RowKit
set_option linter.unusedVariables false

theorem cmpNaN_any (x : Int) (w : World) : Calls Try.prog 158 #[.int .i64 x] w fun e w' => e = .returned (.bool false) ∧ w = w' := by
  go_enter Try.func158, Try.ntmps158
  go_wp2
  go_ret
  exact ⟨rfl, rfl⟩
theorem slNaN_any (x : Int) (w : World) : Calls Try.prog 155 #[.int .i64 x] w fun e w' => e = .returned (.bool false) ∧ w = w' := by
  go_enter Try.func155, Try.ntmps155
  go_wp2
  go_ret
  exact ⟨rfl, rfl⟩
theorem cmpLess_any (x y : Int) (w : World) : Calls Try.prog 154 #[.int .i64 x, .int .i64 y] w fun e w' => e = .returned (.bool (decide (x < y))) ∧ w = w' := by
  go_enter Try.func154, Try.ntmps154
  go_wp2_with fail
  refine (cmpNaN_any _ _).mono ?_
  rintro e w' ⟨rfl, rfl⟩
  go_wp2
  go_ret
  exact ⟨rfl, rfl⟩
/-- Where a number stands in a list, if it does. -/
def BsR (vs : List Int) (n : Nat) (t : Int) (w : World) (e : Ending) (w' : World) : Prop := w = w' ∧ ∃ (i : Nat) (f : Bool), e = .returned (.tuple #[.int .i64 (i : Nat), .bool f]) ∧ (f = true → i < n ∧ vs.getD i 0 = t) ∧ (f = false → ∀ k, k < n → vs.getD k 0 ≠ t)
set_option maxHeartbeats 1600000 in
theorem bsearch_any (a : Option Addr) (n cap : Nat) (vs : List Int) (t : Int) (w : World) (hb : n ≤ 1048576) (hx : IsInts w a n vs) (hm : ∀ j k, j < k → k < n → vs.getD j 0 < vs.getD k 0) :
    Calls Try.prog 129 #[.slice a n cap, .int .i64 t] w (BsR vs n t w) := by
  have HM := Lib.hid hm
  have HX := Lib.hid hx
  clear hm hx
  go_enter Try.func129, Try.ntmps129
  go_wp2
  go_loop [7, 8] (fun u v => ∃ i j : Nat, i ≤ j ∧ j ≤ n ∧ u = .int .i64 (i : Nat) ∧ v = .int .i64 (j : Nat) ∧ Hid ((∀ k, k < i → vs.getD k 0 < t) ∧ ∀ k, j ≤ k → k < n → t ≤ vs.getD k 0)) (fun u v => (intOf v).toNat - (intOf u).toNat)
  case atStart => exact ⟨0, n, Nat.zero_le _, Nat.le_refl _, rfl, rfl, Lib.hid ⟨fun k hk => by omega, fun k h1 h2 => by omega⟩⟩
  case round =>
    obtain ⟨i, j, hij, hj, rfl, rfl, HR⟩ := hrel
    by_cases hlt : i < j
    · have hh1 : i ≤ (i + j) / 2 := by omega
      have hh2 : (i + j) / 2 < j := by omega
      have hi0 : (0:Int) ≤ (i:Int) := by omega
      obtain ⟨b, off, rfl, c1⟩ := HX.out.at (show (i + j) / 2 < n by omega)
      obtain ⟨x, hx⟩ : ∃ x, vs.getD ((i + j) / 2) 0 = x := ⟨_, rfl⟩
      rw [hx] at c1
      have HH := Lib.hid hx
      clear hx
      by_cases hxt : x < t
      · have hd : decide (x < t) = true := decide_eq_true hxt
        go_wp2_with fail
        refine (cmpLess_any x t _).mono ?_
        rintro e w' ⟨rfl, rfl⟩
        go_wp2
        go_round
        case rel => exact ⟨(i + j) / 2 + 1, j, by omega, hj, congrArg (Value.int .i64) (by omega), rfl, Lib.hid ⟨fun k hk => by
          rcases Nat.lt_or_ge k ((i + j) / 2) with h | h
          · have := HM.out k ((i + j) / 2) h (by omega); have := HH.out; omega
          · obtain rfl : k = (i + j) / 2 := by omega
            rw [HH.out]; exact hxt, HR.out.2⟩⟩
        case measure => simp [intOf]; omega
      · have hd : decide (x < t) = false := decide_eq_false hxt
        go_wp2_with fail
        refine (cmpLess_any x t _).mono ?_
        rintro e w' ⟨rfl, rfl⟩
        go_wp2
        go_round
        case rel => exact ⟨i, (i + j) / 2, hh1, by omega, rfl, congrArg (Value.int .i64) (by omega), Lib.hid ⟨HR.out.1, fun k h1 h2 => by
          rcases Nat.lt_or_ge ((i + j) / 2) k with h | h
          · have := HM.out ((i + j) / 2) k h h2; have := HH.out; omega
          · obtain rfl : k = (i + j) / 2 := by omega
            have := HH.out; omega⟩⟩
        case measure => simp [intOf]; omega
    · obtain rfl : i = j := by omega
      by_cases hin : i < n
      · have hi0 : (0:Int) ≤ (i:Int) := by omega
        have hin2 : (i:Int) < (n:Int) := by omega
        obtain ⟨b, off, rfl, c1⟩ := HX.out.at hin
        obtain ⟨x, hx⟩ : ∃ x, vs.getD i 0 = x := ⟨_, rfl⟩
        rw [hx] at c1
        have HH := Lib.hid hx
        clear hx
        by_cases hxt : x = t
        · subst hxt
          go_wp2_with fail
          go_ret2
          exact ⟨rfl, i, true, rfl, fun _ => ⟨hin, HH.out⟩, fun h => by cases h⟩
        · have hd : (x == t) = false := by rw [beq_eq_false_iff_ne]; exact hxt
          go_wp2_with fail
          refine (slNaN_any x _).mono ?_
          rintro e w' ⟨rfl, rfl⟩
          go_wp2
          go_ret2
          exact ⟨rfl, i, false, rfl, (fun h => by cases h), fun _ k hk e => by
            rcases Nat.lt_or_ge k i with h | h
            · have := HR.out.1 k h; omega
            · have := HR.out.2 k h hk
              rcases Nat.lt_or_ge i k with h2 | h2
              · have h3 := HM.out i k h2 hk; have := HR.out.2 i (Nat.le_refl _) hin; omega
              · obtain rfl : k = i := by omega
                exact hxt (HH.out ▸ e)⟩
      · obtain rfl : i = n := by omega
        go_wp2
        go_ret2
        exact ⟨rfl, i, false, rfl, (fun h => by cases h), fun _ k hk e => by have := HR.out.1 k hk; omega⟩
end Go.Proofs.Ytohmnnpophompaa

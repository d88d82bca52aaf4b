import Derived.Test.YtgonnnjfefjnjaaDoorTable
/- The inputs of a table; the law FnExactInputsOf. -/
namespace Go.Proofs.YtgonnnjfefjnjaaDoor
open Go.RowKit
set_option linter.unusedVariables false

theorem l00Max_any (a b : Int) (w : World) : Calls Tryd.prog 56 #[.int .i64 a, .int .i64 b] w fun e w' => e = .returned (.int .i64 (if b < a then a else b)) ∧ w = w' := by
  by_cases h : b < a
  · rw [if_pos h]
    go_enter Tryd.func56, Tryd.ntmps56
    go_wp2
    go_ret
    exact ⟨rfl, rfl⟩
  · rw [if_neg h]
    go_enter Tryd.func56, Tryd.ntmps56
    go_wp2
    go_ret
    exact ⟨rfl, rfl⟩
theorem inputs_any (s : ByteArray) (k : Nat) (w : World) (hk : k < 7) (hs : s.size = 2 ^ k) :
    Calls Tryd.prog 63 #[.string s] w fun e w' => e = .returned (.int .i64 (k : Nat)) ∧ w = w' := by
  have hp : ((2 ^ k : Nat) : Int) = (2 : Int) ^ k := by simp
  have h64 : ∀ k, k < 7 → 1 ≤ (2 : Int) ^ k ∧ (2 : Int) ^ k ≤ 64 := by decide
  have h6 := h64 k hk
  have hi : (s.size : Int) = (2 : Int) ^ k := by rw [hs, hp]
  have HD := Lib.hid (degree_at k (s.size : Int) w (by omega) (by omega) (by rw [Int.pow_succ]; omega) (by omega))
  clear hi hp hs h64 h6
  go_enter Tryd.func63, Tryd.ntmps63
  go_wp2_with fail
  refine HD.out.mono ?_
  rintro e w' ⟨rfl, rfl⟩
  go_wp2
  go_ret
  exact ⟨rfl, rfl⟩
def inpV (s : ByteArray) : Int := if isT s then inpI s else 0
def RetI (w : World) (s : ByteArray) (e : Ending) (w' : World) : Prop := e = .returned (.tuple #[.int .i64 (inpV s), .bool (isT s)]) ∧ Below w.heap.size w w'
end Go.Proofs.YtgonnnjfefjnjaaDoor

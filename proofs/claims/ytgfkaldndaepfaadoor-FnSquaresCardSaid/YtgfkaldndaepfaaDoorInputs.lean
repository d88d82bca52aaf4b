import Derived.Test.YtgfkaldndaepfaaDoorTable
/- The inputs of a table; the law FnExactInputsOf. -/
namespace Go.Proofs.YtgfkaldndaepfaaDoor
open Go.RowKit
set_option linter.unusedVariables false

theorem inputs_any (s : ByteArray) (k : Nat) (w : World) (hk : k < 7) (hs : s.size = 2 ^ k) :
    Calls Tryd.prog 25 #[.string s] w fun e w' => e = .returned (.int .i64 (k : Nat)) ∧ w = w' := by
  have hp : ((2 ^ k : Nat) : Int) = (2 : Int) ^ k := by simp
  have h64 : ∀ k, k < 7 → 1 ≤ (2 : Int) ^ k ∧ (2 : Int) ^ k ≤ 64 := by decide
  have h6 := h64 k hk
  have hi : (s.size : Int) = (2 : Int) ^ k := by rw [hs, hp]
  have HD := Lib.hid (degree_at k (s.size : Int) w (by omega) (by omega) (by rw [Int.pow_succ]; omega) (by omega))
  clear hi hp hs h64 h6
  go_enter Tryd.func25, Tryd.ntmps25
  go_wp2_with fail
  refine HD.out.mono ?_
  rintro e w' ⟨rfl, rfl⟩
  go_wp2
  go_ret
  exact ⟨rfl, rfl⟩
def inpV (s : ByteArray) : Int := if isT s then inpI s else 0
def RetI (w : World) (s : ByteArray) (e : Ending) (w' : World) : Prop := e = .returned (.tuple #[.int .i64 (inpV s), .bool (isT s)]) ∧ Below w.heap.size w w'
set_option maxHeartbeats 800000 in
theorem inputsOf_any (s : ByteArray) (w : World) (hs : s.size ≤ maxLen) :
    Calls Tryd.prog 11 #[.string s] w (RetI w s) := by
  cases ht : isT s with
  | false =>
    have HT := Lib.hid ht
    clear ht
    go_enter Tryd.func11, Tryd.ntmps11
    go_wp2_with fail
    refine (isTable_any s _ hs).mono ?_
    rintro e w1 ⟨rfl, hb1⟩
    rw [HT.out]
    go_wp2_with fail
    go_ret2
    exact ⟨by unfold inpV; rw [HT.out]; rfl, hb1⟩
  | true =>
    obtain ⟨k, hi, hk, hsz, _⟩ := isT_iff ht
    have HT := Lib.hid (And.intro ht (And.intro hi hsz))
    clear ht hi hsz
    go_enter Tryd.func11, Tryd.ntmps11
    go_wp2_with fail
    refine (isTable_any s _ hs).mono ?_
    rintro e w1 ⟨rfl, hb1⟩
    rw [HT.out.1]
    go_wp2_with fail
    refine (inputs_any s k _ hk HT.out.2.2).mono ?_
    rintro e w' ⟨rfl, rfl⟩
    go_wp2_with fail
    go_ret2
    exact ⟨by unfold inpV inpI; rw [HT.out.1, HT.out.2.1]; rfl, hb1⟩
end Go.Proofs.YtgfkaldndaepfaaDoor

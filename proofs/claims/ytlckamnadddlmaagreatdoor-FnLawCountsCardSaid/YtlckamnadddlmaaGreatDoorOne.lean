import Derived.Test.YtlckamnadddlmaaGreatDoorBase
/- The small helpers: ranges, lengths, copies and comparisons of slices of int64. -/
namespace Go.Proofs.YtlckamnadddlmaaGreatDoor
open Go.RowKit
set_option linter.unusedVariables false

def inR (n lo hi : Int) : Bool := decide (lo ≤ n) && decide (n ≤ hi)

theorem inRange_any (n lo hi : Int) (w : World) :
    Calls Tryz.prog 27 #[.int .i64 n, .int .i64 lo, .int .i64 hi] w fun e w' => e = .returned (.bool (inR n lo hi)) ∧ w = w' := by
  by_cases h : lo ≤ n <;> by_cases h2 : n ≤ hi
  all_goals
    go_enter Tryz.func27, Tryz.ntmps27
    go_wp2
    go_ret
    exact ⟨by simp [inR, h, h2], rfl⟩
theorem l00In_any (n lo hi : Int) (w : World) :
    Calls Tryz.prog 35 #[.int .i64 n, .int .i64 lo, .int .i64 hi] w fun e w' => e = .returned (.bool (inR n lo hi)) ∧ w = w' := by
  by_cases h : lo ≤ n <;> by_cases h2 : n ≤ hi
  all_goals
    go_enter Tryz.func35, Tryz.ntmps35
    go_wp2
    go_ret
    exact ⟨by simp [inR, h, h2], rfl⟩
theorem length_any (a : Option Addr) (len cap : Nat) (w : World) :
    Calls Tryz.prog 28 #[.slice a len cap] w fun e w' => e = .returned (.int .i64 len) ∧ w = w' := by
  go_enter Tryz.func28, Tryz.ntmps28
  go_wp2
  go_ret
  exact ⟨rfl, rfl⟩


theorem zeros_toList (n : Nat) : (madeCells #[Value.int .i64 0] n).toList = (List.replicate n (0 : Int)).map (Value.int .i64) := by
  rw [toList_madeCells_one]; simp

/-- The round of a loop that fills a slice: the first k numbers are laid. -/
def part (zs : List Int) (k n : Nat) : List Int := zs.take k ++ List.replicate (n - k) 0

theorem part_set (zs : List Int) (k : Nat) (h : k < zs.length) : ((part zs k zs.length).map (Value.int .i64)).set k (.int .i64 (zs.getD k 0)) = (part zs (k + 1) zs.length).map (Value.int .i64) := by
  have hl : (zs.take k).length = k := by simp; omega
  rw [← List.map_set]
  congr 1
  unfold part
  rw [take_snoc zs k h, List.set_append]
  simp only [hl, Nat.lt_irrefl, if_false, Nat.sub_self, List.append_assoc]
  congr 1
  rw [show zs.length - k = (zs.length - (k + 1)) + 1 from by omega, List.replicate_succ]
  simp

theorem part_len (zs : List Int) (k : Nat) (h : k ≤ zs.length) : (part zs k zs.length).length = zs.length := by
  simp [part]; omega

def marks (k : Nat) (n : Nat) : List Int := (List.range n).map fun j => ((k + j : Nat) : Int)
theorem marks_len (k n : Nat) : (marks k n).length = n := by simp [marks]
theorem marks_getD (k n j : Nat) (h : j < n) : (marks k n).getD j 0 = ((k + j : Nat) : Int) := by
  simp [marks, List.getD, h]
def marked (zs : List Int) (k0 j : Nat) : List Int := marks k0 j ++ zs.drop j
theorem marked_len (zs : List Int) (k0 j : Nat) (h : j ≤ zs.length) : (marked zs k0 j).length = zs.length := by simp [marked, marks_len]; omega
theorem marked_set (zs : List Int) (k0 j : Nat) (h : j < zs.length) : ((marked zs k0 j).map (Value.int .i64)).set j (.int .i64 ((k0 + j : Nat) : Int)) = (marked zs k0 (j + 1)).map (Value.int .i64) := by
  rw [← List.map_set]
  congr 1
  unfold marked
  rw [List.set_append]
  simp only [marks_len, Nat.lt_irrefl, if_false, Nat.sub_self]
  have e : (List.drop j zs) = zs[j] :: List.drop (j + 1) zs := List.drop_eq_getElem_cons h
  rw [e, List.set_cons_zero]
  simp [marks, List.range_succ]

end Go.Proofs.YtlckamnadddlmaaGreatDoor

import Derived.Test.YtflgooogiceliaaDoorNear
/- The greatest number of a spectrum and where it stands: the reference's walk, and the laws FnExactNearestSum, FnExactNonlinearityOf, FnExactBalanceOf. Condition: the text is shorter than the model's greatest length. -/
namespace Go.Proofs.YtflgooogiceliaaDoor
open Go.RowKit
set_option linter.unusedVariables false

/-- A call's answer: a number, and whether there is one. -/
def RetVal (w : World) (ok : Bool) (z : Int) (e : Ending) (w' : World) : Prop := e = .returned (.tuple #[.int .i64 z, .bool ok]) ∧ Below w.heap.size w w'
def RetVal2 (w : World) (ok : Bool) (x z : Int) (e : Ending) (w' : World) : Prop := e = .returned (.tuple #[.int .i64 x, .int .i64 z, .bool ok]) ∧ Below w.heap.size w w'
def tabV (s : ByteArray) (z : Int) : Int := if isT s then z else 0
theorem balanceOf_any (s : ByteArray) (w : World) (hs : s.size ≤ maxLen) : Calls Tryd.prog 29 #[.string s] w (RetVal w (isT s) (tabV s ((spS' s).getD 0 0))) := by
  cases ht : isT s with
  | false =>
    rw [show tabV s ((spS' s).getD 0 0) = 0 by unfold tabV; rw [ht]; rfl]
    have HT := Lib.hid ht
    clear ht
    go_enter Tryd.func29, Tryd.ntmps29
    go_wp2_with fail
    refine (isTable_any s _ hs).mono ?_
    rintro e w1 ⟨rfl, hb1⟩
    rw [HT.out]
    go_wp2_with fail
    go_ret2
    exact ⟨rfl, hb1⟩
  | true =>
    rw [show tabV s ((spS' s).getD 0 0) = (spS' s).getD 0 0 by unfold tabV; rw [ht]; rfl]
    obtain ⟨k, hi, hk, hsz, hB⟩ := isT_iff ht
    have hs1 : 1 ≤ s.size := by rw [hsz]; exact Nat.one_le_two_pow
    have HT := Lib.hid (And.intro ht (And.intro hsz hB))
    clear ht hi hsz hB
    go_enter Tryd.func29, Tryd.ntmps29
    go_wp2_with fail
    refine (isTable_any s _ hs).mono ?_
    rintro e w1 ⟨rfl, hb1⟩
    rw [HT.out.1]
    have Hb1 := Lib.hid hb1
    clear hb1
    go_wp2_with fail
    refine (spectrum_any s k _ hk HT.out.2.1 HT.out.2.2).mono ?_
    rintro e w2 ⟨a, c, rfl, hown, hb2⟩
    rw [spS'_len] at hown ⊢
    obtain ⟨bl, off, rfl, hc⟩ := (IsInts.of_own hown).at (show 0 < s.size by omega)
    have hs1' : (0 : Int) < (s.size : Int) := by omega
    simp only [Nat.add_zero] at hc
    have H := Lib.hid (bthen Hb1.out hb2)
    clear hown hb2
    go_wp2
    go_ret2
    exact ⟨rfl, H.out⟩
theorem nearestSumT_any (s : ByteArray) (w : World) (hs : s.size ≤ maxLen) : Calls Tryd.prog 31 #[.string s] w (RetVal2 w (isT s) (tabV s (((nrS s).1 : Nat))) (tabV s ((nrS s).2.1))) := by
  cases ht : isT s with
  | false =>
    rw [show tabV s (((nrS s).1 : Nat)) = 0 by unfold tabV; rw [ht]; rfl]
    rw [show tabV s ((nrS s).2.1) = 0 by unfold tabV; rw [ht]; rfl]
    have HT := Lib.hid ht
    clear ht
    go_enter Tryd.func31, Tryd.ntmps31
    go_wp2_with fail
    refine (isTable_any s _ hs).mono ?_
    rintro e w1 ⟨rfl, hb1⟩
    rw [HT.out]
    go_wp2_with fail
    go_ret3
    exact ⟨rfl, hb1⟩
  | true =>
    rw [show tabV s (((nrS s).1 : Nat)) = ((nrS s).1 : Nat) by unfold tabV; rw [ht]; rfl]
    rw [show tabV s ((nrS s).2.1) = (nrS s).2.1 by unfold tabV; rw [ht]; rfl]
    obtain ⟨k, hi, hk, hsz, hB⟩ := isT_iff ht
    have HT := Lib.hid (And.intro ht (And.intro hsz hB))
    have HC := Lib.hid (fun w => nearestSum_any s k w hk hsz hB)
    obtain ⟨x0, hx0⟩ : ∃ x, (((nrS s).1 : Nat) : Int) = x := ⟨_, rfl⟩
    obtain ⟨x1, hx1⟩ : ∃ x, ((nrS s).2.1 : Int) = x := ⟨_, rfl⟩
    obtain ⟨x2, hx2⟩ : ∃ x, (nrD s : Int) = x := ⟨_, rfl⟩
    rw [hx0, hx1, hx2] at HC
    rw [hx0, hx1]
    clear ht hi hsz hB hx0 hx1 hx2
    go_enter Tryd.func31, Tryd.ntmps31
    go_wp2_with fail
    refine (isTable_any s _ hs).mono ?_
    rintro e w1 ⟨rfl, hb1⟩
    rw [HT.out.1]
    have Hb1 := Lib.hid hb1
    clear hb1
    go_wp2_with fail
    refine (HC.out _).mono ?_
    rintro e w2 ⟨rfl, hb2⟩
    have H := Lib.hid (bthen Hb1.out hb2)
    clear hb2
    go_wp2
    go_ret3
    exact ⟨rfl, H.out⟩
theorem nonlinearityOf_any (s : ByteArray) (w : World) (hs : s.size ≤ maxLen) : Calls Tryd.prog 30 #[.string s] w (RetVal w (isT s) (tabV s (nrD s))) := by
  cases ht : isT s with
  | false =>
    rw [show tabV s (nrD s) = 0 by unfold tabV; rw [ht]; rfl]
    have HT := Lib.hid ht
    clear ht
    go_enter Tryd.func30, Tryd.ntmps30
    go_wp2_with fail
    refine (isTable_any s _ hs).mono ?_
    rintro e w1 ⟨rfl, hb1⟩
    rw [HT.out]
    go_wp2_with fail
    go_ret2
    exact ⟨rfl, hb1⟩
  | true =>
    rw [show tabV s (nrD s) = nrD s by unfold tabV; rw [ht]; rfl]
    obtain ⟨k, hi, hk, hsz, hB⟩ := isT_iff ht
    have HT := Lib.hid (And.intro ht (And.intro hsz hB))
    have HC := Lib.hid (fun w => nearestSum_any s k w hk hsz hB)
    obtain ⟨x0, hx0⟩ : ∃ x, (((nrS s).1 : Nat) : Int) = x := ⟨_, rfl⟩
    obtain ⟨x1, hx1⟩ : ∃ x, ((nrS s).2.1 : Int) = x := ⟨_, rfl⟩
    obtain ⟨x2, hx2⟩ : ∃ x, (nrD s : Int) = x := ⟨_, rfl⟩
    rw [hx0, hx1, hx2] at HC
    rw [hx2]
    clear ht hi hsz hB hx0 hx1 hx2
    go_enter Tryd.func30, Tryd.ntmps30
    go_wp2_with fail
    refine (isTable_any s _ hs).mono ?_
    rintro e w1 ⟨rfl, hb1⟩
    rw [HT.out.1]
    have Hb1 := Lib.hid hb1
    clear hb1
    go_wp2_with fail
    refine (HC.out _).mono ?_
    rintro e w2 ⟨rfl, hb2⟩
    have H := Lib.hid (bthen Hb1.out hb2)
    clear hb2
    go_wp2
    go_ret2
    exact ⟨rfl, H.out⟩
end Go.Proofs.YtflgooogiceliaaDoor

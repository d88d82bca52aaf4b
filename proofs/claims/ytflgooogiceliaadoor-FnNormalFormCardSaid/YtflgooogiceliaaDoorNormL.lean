import Derived.Test.YtflgooogiceliaaDoorNormS
/- The law FnExactNormalForm: both normal forms are the same. Condition: the text is shorter than the model's greatest length. -/
namespace Go.Proofs.YtflgooogiceliaaDoor
open Go.RowKit
set_option linter.unusedVariables false

def nfOf (s : ByteArray) : ByteArray := match inpN s with | some k => strOfNums (nfT s k) | none => ⟨#[]⟩
def RetN (w : World) (s : ByteArray) (e : Ending) (w' : World) : Prop := e = .returned (.tuple #[.string (nfOf s), .bool (isT s)]) ∧ Below w.heap.size w w'
theorem nfOf_no {s : ByteArray} (h : isT s = false) : nfOf s = ⟨#[]⟩ := by
  unfold nfOf
  unfold isT at h
  cases hi : inpN s with
  | none => rfl
  | some k => rw [hi] at h; cases h
theorem nfOf_yes {s : ByteArray} {k : Nat} (h : inpN s = some k) : nfOf s = strOfNums (nfT s k) := by unfold nfOf; rw [h]
set_option maxHeartbeats 400000 in
theorem implNormalForm_any (s : ByteArray) (w : World) (hs : s.size ≤ maxLen) : Calls Tryd.prog 37 #[.string s] w (RetN w s) := by
  cases ht : isT s with
  | false =>
    have HT := Lib.hid (And.intro ht (nfOf_no ht))
    clear ht
    go_enter Tryd.func37, Tryd.ntmps37
    go_wp2_with fail
    refine (isTable_any s _ hs).mono ?_
    rintro e w1 ⟨rfl, hb1⟩
    rw [HT.out.1]
    go_wp2_with fail
    go_ret2
    exact ⟨by rw [HT.out.1, HT.out.2]; rfl, hb1⟩
  | true =>
    obtain ⟨k, hi, hk, hsz, hB⟩ := isT_iff ht
    have HT := Lib.hid (And.intro ht (And.intro (nfOf_yes hi) (And.intro hsz hB)))
    clear ht hi hsz hB
    go_enter Tryd.func37, Tryd.ntmps37
    go_wp2_with fail
    refine (isTable_any s _ hs).mono ?_
    rintro e w1 ⟨rfl, hb1⟩
    rw [HT.out.1]
    have Hb1 := Lib.hid hb1
    clear hb1
    go_wp2_with fail
    refine (normalForm_any s k _ hk HT.out.2.2.1 HT.out.2.2.2).mono ?_
    rintro e w2 ⟨rfl, hb2⟩
    have Hb2 := Lib.hid (bthen Hb1.out hb2)
    clear hb2
    go_wp2_with fail
    go_ret2
    exact ⟨by rw [HT.out.1, HT.out.2.1]; rfl, Hb2.out⟩
end Go.Proofs.YtflgooogiceliaaDoor

import Derived.Test.YtgfkaldndaepfaaDoorShifts
/- How a table agrees with itself shifted: the reference's walk, and the law FnExactShiftsOf. Condition: the text is shorter than the model's greatest length. -/
namespace Go.Proofs.YtgfkaldndaepfaaDoor
open Go.RowKit
set_option linter.unusedVariables false

/-- A call's answer: a slice of its own, and whether there is one. -/
def RetSl (w : World) (ok : Bool) (zs : List Int) (e : Ending) (w' : World) : Prop := ∃ a c, e = .returned (.tuple #[.slice a zs.length c, .bool ok]) ∧ Lists w' w.heap.size [⟨a, zs.length, c, zs⟩] ∧ Below w.heap.size w w'
theorem retSl_no {w w' : World} (hb : Below w.heap.size w w') : RetSl w false [] (.returned (.tuple #[.slice none 0 0, .bool false])) w' :=
  ⟨none, 0, rfl, Lists.one ⟨rfl, Or.inl ⟨rfl, rfl⟩⟩, hb⟩
/-- What a function of tables gives: nothing of other texts. -/
def tabL (s : ByteArray) (L : List Int) : List Int := if isT s then L else []
set_option maxHeartbeats 800000 in
theorem shiftsOf_any (s : ByteArray) (w : World) (hs : s.size ≤ maxLen) : Calls Tryd.prog 8 #[.string s] w (RetSl w (isT s) (tabL s (shL s))) := by
  cases ht : isT s with
  | false =>
    rw [show tabL s (shL s) = [] by unfold tabL; rw [ht]; rfl]
    have HT := Lib.hid ht
    clear ht
    go_enter Tryd.func8, Tryd.ntmps8
    go_wp2_with fail
    refine (isTable_any s _ hs).mono ?_
    rintro e w1 ⟨rfl, hb1⟩
    rw [HT.out]
    go_wp2_with fail
    go_ret2
    exact retSl_no hb1
  | true =>
    rw [show tabL s (shL s) = shL s by unfold tabL; rw [ht]; rfl]
    obtain ⟨k, hi, hk, hsz, hB⟩ := isT_iff ht
    have HT := Lib.hid (And.intro ht (And.intro hsz hB))
    clear ht hi hsz hB
    go_enter Tryd.func8, Tryd.ntmps8
    go_wp2_with fail
    refine (isTable_any s _ hs).mono ?_
    rintro e w1 ⟨rfl, hb1⟩
    rw [HT.out.1]
    have Hb1 := Lib.hid hb1
    clear hb1
    go_wp2_with fail
    refine (shifts_any s k _ hk HT.out.2.1 HT.out.2.2).mono ?_
    rintro e w2 ⟨a, c, rfl, hown, hb2⟩
    have H := Lib.hid (And.intro (Lists.one (own_mono hown Hb1.out.size)) (bthen Hb1.out hb2))
    clear hown hb2
    go_wp2_with fail
    go_ret2
    exact ⟨a, c, rfl, H.out.1, H.out.2⟩
theorem tabL_small {s : ByteArray} {L : List Int} (hL : L.length ≤ s.size) (hsz : s.size ≤ 1048576) : (tabL s L).length ≤ 1048576 := by
  unfold tabL
  split
  · omega
  · simp
end Go.Proofs.YtgfkaldndaepfaaDoor

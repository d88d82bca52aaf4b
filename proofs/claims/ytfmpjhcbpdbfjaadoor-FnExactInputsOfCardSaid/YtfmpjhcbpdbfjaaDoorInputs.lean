import Derived.Test.YtfmpjhcbpdbfjaaDoorTable
/- The inputs of a table; the law FnExactInputsOf. -/
namespace Go.Proofs.YtfmpjhcbpdbfjaaDoor
open Go.RowKit
set_option linter.unusedVariables false

theorem l00Max_any (a b : Int) (w : World) : Calls Tryd.prog 44 #[.int .i64 a, .int .i64 b] w fun e w' => e = .returned (.int .i64 (if b < a then a else b)) ∧ w = w' := by
  by_cases h : b < a
  · rw [if_pos h]
    go_enter Tryd.func44, Tryd.ntmps44
    go_wp2
    go_ret
    exact ⟨rfl, rfl⟩
  · rw [if_neg h]
    go_enter Tryd.func44, Tryd.ntmps44
    go_wp2
    go_ret
    exact ⟨rfl, rfl⟩
theorem inputs_any (s : ByteArray) (k : Nat) (w : World) (hk : k < 7) (hs : s.size = 2 ^ k) :
    Calls Tryd.prog 45 #[.string s] w fun e w' => e = .returned (.int .i64 (k : Nat)) ∧ w = w' := by
  have hp : ((2 ^ k : Nat) : Int) = (2 : Int) ^ k := by simp
  have h64 : ∀ k, k < 7 → 1 ≤ (2 : Int) ^ k ∧ (2 : Int) ^ k ≤ 64 := by decide
  have h6 := h64 k hk
  have hi : (s.size : Int) = (2 : Int) ^ k := by rw [hs, hp]
  have HD := Lib.hid (degree_at k (s.size : Int) w (by omega) (by omega) (by rw [Int.pow_succ]; omega) (by omega))
  clear hi hp hs h64 h6
  go_enter Tryd.func45, Tryd.ntmps45
  go_wp2_with fail
  refine HD.out.mono ?_
  rintro e w' ⟨rfl, rfl⟩
  go_wp2
  go_ret
  exact ⟨rfl, rfl⟩
def inpV (s : ByteArray) : Int := if isT s then inpI s else 0
def RetI (w : World) (s : ByteArray) (e : Ending) (w' : World) : Prop := e = .returned (.tuple #[.int .i64 (inpV s), .bool (isT s)]) ∧ Below w.heap.size w w'
set_option maxHeartbeats 800000 in
theorem inputsOf_any (s : ByteArray) (w : World) (hs : s.size ≤ maxLen) :
    Calls Tryd.prog 19 #[.string s] w (RetI w s) := by
  cases ht : isT s with
  | false =>
    have HT := Lib.hid ht
    clear ht
    go_enter Tryd.func19, Tryd.ntmps19
    go_wp2_with fail
    refine (isTable_any s _ hs).mono ?_
    rintro e w1 ⟨rfl, hb1⟩
    rw [HT.out]
    go_wp2_with fail
    go_ret2
    exact ⟨by unfold inpV; rw [HT.out]; rfl, hb1⟩
  | true =>
    obtain ⟨k, hi, hk, hsz, _⟩ := isT_iff ht
    have HT := Lib.hid (And.intro ht (And.intro hi hsz))
    clear ht hi hsz
    go_enter Tryd.func19, Tryd.ntmps19
    go_wp2_with fail
    refine (isTable_any s _ hs).mono ?_
    rintro e w1 ⟨rfl, hb1⟩
    rw [HT.out.1]
    go_wp2_with fail
    refine (inputs_any s k _ hk HT.out.2.2).mono ?_
    rintro e w' ⟨rfl, rfl⟩
    go_wp2_with fail
    go_ret2
    exact ⟨by unfold inpV inpI; rw [HT.out.1, HT.out.2.1]; rfl, hb1⟩
set_option maxHeartbeats 800000 in
theorem specInputsOf_any (s : ByteArray) (w : World) (hs : s.size ≤ maxLen) :
    Calls Tryd.prog 18 #[.string s] w (RetI w s) := by
  have hge := isT_ge s
  have hm1 : ¬ isT s = true → inpI s = -1 := fun h => by
    unfold inpI
    unfold isT at h
    cases hi : inpN s with
    | none => rfl
    | some k => rw [hi] at h; simp at h
  obtain ⟨v, hv⟩ : ∃ v, inpI s = v := ⟨_, rfl⟩
  have HV : inpV s = if (0:Int) < v then v else 0 := by
    unfold inpV
    rw [← hge, hv]
    by_cases h : 0 ≤ v
    · rw [decide_eq_true h, if_pos rfl]; split <;> omega
    · rw [decide_eq_false h, if_neg (by simp), if_neg (by omega)]
  rw [hv] at hge
  have H := Lib.hid (And.intro hge (And.intro hv HV))
  clear hge hm1 HV hv
  go_enter Tryd.func18, Tryd.ntmps18
  go_wp2_with fail
  refine (l04Inputs_any s _ hs).mono ?_
  rintro e w' ⟨rfl, rfl⟩
  rw [H.out.2.1]
  go_wp2_with fail
  refine (l00Max_any _ _ _).mono ?_
  rintro e w' ⟨rfl, rfl⟩
  rw [← H.out.2.2]
  go_wp2_with fail
  go_ret2
  exact ⟨by rw [← H.out.1]; rfl, Below.refl _ _⟩
set_option maxHeartbeats 400000 in
theorem fnExactInputsOf_walk (s : ByteArray) (w : World) (hs : s.size ≤ maxLen) :
    Calls Tryd.prog 5 #[.string s] w fun e w' => e = .returned (.bool true) ∧ Below w.heap.size w w' := by
  obtain ⟨d, hd⟩ : ∃ d, isT s = d := ⟨_, rfl⟩
  obtain ⟨v, hv⟩ : ∃ v, inpV s = v := ⟨_, rfl⟩
  have HD := Lib.hid (And.intro hd hv)
  clear hd hv
  by_cases hbig : 1048576 < s.size
  · have : (1048576 : Int) < (s.size : Int) := by omega
    go_enter Tryd.func5, Tryd.ntmps5
    go_wp2
    go_ret
    exact ⟨rfl, Below.refl _ _⟩
  · have : ¬ (1048576 : Int) < (s.size : Int) := by omega
    go_enter Tryd.func5, Tryd.ntmps5
    go_wp2_with fail
    refine (specInputsOf_any s _ hs).mono ?_
    rintro e w1 ⟨rfl, hb1⟩
    rw [HD.out.1, HD.out.2]
    go_wp2_with fail
    refine (inputsOf_any s _ hs).mono ?_
    rintro e w2 ⟨rfl, hb2⟩
    rw [HD.out.1, HD.out.2]
    have Hb := Lib.hid (bthen hb1 hb2)
    clear hb1 hb2
    go_wp2_with fail
    go_ret
    exact ⟨rfl, Hb.out⟩
end Go.Proofs.YtfmpjhcbpdbfjaaDoor

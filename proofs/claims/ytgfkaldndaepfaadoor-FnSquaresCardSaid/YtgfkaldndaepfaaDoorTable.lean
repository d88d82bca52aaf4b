import Derived.Test.YtgfkaldndaepfaaDoorDeg
/- Tables of values: what is a table, its inputs, its values. -/
namespace Go.Proofs.YtgfkaldndaepfaaDoor
open Go.RowKit
set_option linter.unusedVariables false

/-- The number of inputs of a table, none of other texts. -/
def inpN (s : ByteArray) : Option Nat := if isB s then (List.range 7).find? (fun k => s.size == 2 ^ k) else none
def isT (s : ByteArray) : Bool := (inpN s).isSome
def inpI (s : ByteArray) : Int := match inpN s with | some k => (k : Int) | none => -1
theorem inpN_some {s : ByteArray} {k : Nat} (h : inpN s = some k) : isB s = true ∧ k < 7 ∧ s.size = 2 ^ k := by
  unfold inpN at h
  split at h
  · rename_i hb
    obtain ⟨h1, h2, _⟩ := List.find?_range_eq_some.1 h
    exact ⟨hb, by simpa using h2, by simpa using h1⟩
  · cases h
theorem inpN_of {s : ByteArray} {k : Nat} (hb : isB s = true) (hk : k < 7) (hs : s.size = 2 ^ k) : inpN s = some k := by
  unfold inpN
  rw [if_pos hb, List.find?_range_eq_some]
  refine ⟨by simp [hs], by simpa using hk, fun j hj => ?_⟩
  have : (2 : Nat) ^ j < 2 ^ k := Nat.pow_lt_pow_right (by omega) hj
  simp only [Bool.not_eq_true', beq_eq_false_iff_ne, ne_eq]
  omega
theorem inpN_none {s : ByteArray} (h : ∀ k, k < 7 → ¬ (s.size = 2 ^ k ∧ isB s = true)) : inpN s = none := by
  cases he : inpN s with
  | none => rfl
  | some k =>
    obtain ⟨a, b, c⟩ := inpN_some he
    exact absurd ⟨c, a⟩ (h k b)
theorem isT_ge (s : ByteArray) : decide ((0:Int) ≤ inpI s) = isT s := by
  unfold inpI isT
  cases inpN s with
  | none => rfl
  | some k => simp
theorem isT_iff {s : ByteArray} (h : isT s = true) : ∃ k, inpN s = some k ∧ k < 7 ∧ s.size = 2 ^ k ∧ isB s = true := by
  unfold isT at h
  obtain ⟨k, hk⟩ := Option.isSome_iff_exists.1 h
  obtain ⟨a, b, c⟩ := inpN_some hk
  exact ⟨k, hk, b, c, a⟩
theorem pow2_small : ∀ n, n < 65 → 1 ≤ n → ((n &&& (n - 1) == 0) = decide (∃ k, k < 7 ∧ n = 2 ^ k)) := by decide +kernel
theorem isT_code (s : ByteArray) (hn : inR s.size 1 64 = true) (hb : isB s = true) : isT s = (s.size &&& (s.size - 1) == 0) := by
  simp only [inR, Bool.and_eq_true, decide_eq_true_eq] at hn
  rw [pow2_small s.size (by omega) (by omega)]
  cases h : isT s with
  | true =>
    obtain ⟨k, _, h2, h3, _⟩ := isT_iff h
    exact (decide_eq_true ⟨k, h2, h3⟩).symm
  | false =>
    refine (decide_eq_false ?_).symm
    rintro ⟨k, h2, h3⟩
    unfold isT at h
    rw [inpN_of hb h2 h3] at h
    cases h
theorem isT_range {s : ByteArray} (h : isT s = true) : inR s.size 1 64 = true := by
  obtain ⟨k, _, h2, h3, _⟩ := isT_iff h
  have : ∀ k, k < 7 → inR ((2 ^ k : Nat) : Int) 1 64 = true := by decide
  rw [h3]
  exact this k h2

set_option maxHeartbeats 800000 in
theorem isTable_any (s : ByteArray) (w : World) (hs : s.size ≤ maxLen) :
    Calls Tryd.prog 20 #[.string s] w (Ret w (.bool (isT s))) := by
  have hs' : s.size ≤ 9223372036854775807 := by unfold maxLen at hs; omega
  cases hb : isB s with
  | false =>
    have ht : isT s = false := by simp [isT, inpN, hb]
    rw [ht]
    have HB := Lib.hid hb
    clear hb ht
    go_enter Tryd.func20, Tryd.ntmps20
    go_wp2_with fail
    refine (isBits_any s _ hs).mono ?_
    rintro e w1 ⟨rfl, hb1⟩
    rw [HB.out]
    go_wp2_with fail
    go_ret
    exact ⟨rfl, hb1⟩
  | true =>
    cases hr : inR s.size 1 64 with
    | false =>
      have ht : isT s = false := by
        cases h : isT s with
        | false => rfl
        | true => rw [isT_range h] at hr; cases hr
      rw [ht]
      have HB := Lib.hid (And.intro hb hr)
      clear hb ht hr
      go_enter Tryd.func20, Tryd.ntmps20
      go_wp2_with fail
      refine (isBits_any s _ hs).mono ?_
      rintro e w1 ⟨rfl, hb1⟩
      rw [HB.out.1]
      go_wp2_with fail
      refine (inRange_any _ _ _ _).mono ?_
      rintro e w' ⟨rfl, rfl⟩
      rw [HB.out.2]
      go_wp2_with fail
      go_ret
      exact ⟨rfl, hb1⟩
    | true =>
      have hc := isT_code s hr hb
      have hn : 1 ≤ s.size ∧ s.size ≤ 64 := by
        simp only [inR, Bool.and_eq_true, decide_eq_true_eq] at hr
        omega
      obtain ⟨n, hne⟩ : ∃ n, s.size = n := ⟨_, rfl⟩
      rw [hne] at hc hn
      have ha := and_i64 n (n - 1) (by omega) (by omega)
      rw [show ((n - 1 : Nat) : Int) = (n : Int) - 1 from by omega] at ha
      have HB := Lib.hid (And.intro hb (And.intro hr hc))
      obtain ⟨m, hm⟩ : ∃ m, n &&& (n - 1) = m := ⟨_, rfl⟩
      have HM := Lib.hid (show isT s = (m == 0) by rw [hc, hm])
      rw [hm] at ha
      clear hb hr hc hm
      go_enter Tryd.func20, Tryd.ntmps20
      go_wp2_with fail
      refine (isBits_any s _ hs).mono ?_
      rintro e w1 ⟨rfl, hb1⟩
      rw [HB.out.1]
      go_wp2_with fail
      refine (inRange_any _ _ _ _).mono ?_
      rintro e w' ⟨rfl, rfl⟩
      rw [← hne, HB.out.2.1]
      rw [hne]
      by_cases hm0 : m = 0
      · subst hm0
        go_wp2_with fail
        go_ret
        exact ⟨by rw [HM.out]; rfl, hb1⟩
      · have hmi : ((m : Int) == 0) = false := by simpa using hm0
        go_wp2_with fail
        go_ret
        exact ⟨by rw [HM.out, show (m == 0) = false from by simpa using hm0]; rfl, hb1⟩
set_option maxHeartbeats 800000 in
theorem l04Inputs_any (s : ByteArray) (w : World) (hs : s.size ≤ maxLen) :
    Calls Tryd.prog 39 #[.string s] w fun e w' => e = .returned (.int .i64 (inpI s)) ∧ w = w' := by
  have hs' : s.size ≤ 9223372036854775807 := by unfold maxLen at hs; omega
  go_enter Tryd.func39, Tryd.ntmps39
  go_wp2
  go_loop [3] (fun i => ∃ j : Nat, j ≤ 7 ∧ i = .int .i64 j ∧ ∀ k, k < j → ¬ (s.size = 2 ^ k ∧ isB s = true)) (fun i => 7 - (intOf i).toNat)
  case atStart => exact ⟨0, by omega, rfl, by omega⟩
  case round =>
    obtain ⟨j, hj, rfl, hall⟩ := hrel
    have Hall := Lib.hid hall
    clear hall
    by_cases hlt : j < 7
    · have hpw := pow_wrap j (by omega)
      have hji : (j : Int) ≤ 6 := by omega
      have hj0 : (0 : Int) ≤ (j : Int) := by omega
      have hcast : ((2 ^ j : Nat) : Int) = (2 : Int) ^ j := by simp
      have HC := Lib.hid hcast
      clear hcast
      by_cases hsz : (s.size : Int) = (2 : Int) ^ j
      · cases hb : isB s with
        | true =>
          have HB := Lib.hid hb
          clear hb
          go_wp2_with fail
          refine (l01Bits_any s _ hs).mono ?_
          rintro e w' ⟨rfl, rfl⟩
          rw [HB.out]
          go_wp2_with fail
          go_ret
          refine ⟨?_, rfl⟩
          have : inpN s = some j := inpN_of HB.out hlt (by have := HC.out; omega)
          unfold inpI
          rw [this]
          rfl
        | false =>
          have HB := Lib.hid hb
          clear hb
          go_wp2_with fail
          refine (l01Bits_any s _ hs).mono ?_
          rintro e w' ⟨rfl, rfl⟩
          rw [HB.out]
          go_wp2_with fail
          go_round
          case rel =>
            refine ⟨j + 1, by omega, by go_num, fun k hk => ?_⟩
            simp
          case measure => simp [intOf]; omega
      · have HZ := Lib.hid hsz
        go_wp2_with fail
        go_round
        case rel =>
          refine ⟨j + 1, by omega, by go_num, fun k hk => ?_⟩
          by_cases h : k = j
          · subst h
            rintro ⟨h1, _⟩
            have := HC.out
            have := HZ.out
            omega
          · exact Hall.out k (by omega)
        case measure => simp [intOf]; omega
    · have hj7 : j = 7 := by omega
      subst hj7
      go_wp2
      go_ret
      refine ⟨?_, rfl⟩
      unfold inpI
      rw [inpN_none Hall.out]
      rfl
theorem l04Table_any (s : ByteArray) (w : World) (hs : s.size ≤ maxLen) :
    Calls Tryd.prog 28 #[.string s] w fun e w' => e = .returned (.bool (isT s)) ∧ w = w' := by
  have H := Lib.hid (isT_ge s)
  go_enter Tryd.func28, Tryd.ntmps28
  go_wp2_with fail
  refine (l04Inputs_any s _ hs).mono ?_
  rintro e w' ⟨rfl, rfl⟩
  go_wp2_with fail
  go_ret
  exact ⟨by rw [← H.out]; rfl, rfl⟩

def valOk (s : ByteArray) (x : Int) : Bool := isT s && inR x 0 ((s.size : Int) - 1)
def RetV (w : World) (s : ByteArray) (x : Int) (e : Ending) (w' : World) : Prop := e = .returned (.tuple #[.int .i64 (if valOk s x then bitOf s x.toNat else 0), .bool (valOk s x)]) ∧ Below w.heap.size w w'
theorem retV_no {w w' : World} {s : ByteArray} {x : Int} (h : valOk s x = false) (hb : Below w.heap.size w w') : RetV w s x (.returned (.tuple #[.int .i64 0, .bool false])) w' := ⟨by rw [h]; rfl, hb⟩
theorem retV_yes {w w' : World} {s : ByteArray} {x v : Int} (h : valOk s x = true) (hv : bitOf s x.toNat = v) (hb : Below w.heap.size w w') : RetV w s x (.returned (.tuple #[.int .i64 v, .bool true])) w' := ⟨by rw [h, ← hv]; rfl, hb⟩
end Go.Proofs.YtgfkaldndaepfaaDoor

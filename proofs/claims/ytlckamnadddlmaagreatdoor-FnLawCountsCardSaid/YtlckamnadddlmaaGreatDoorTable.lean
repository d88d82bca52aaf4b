import Derived.Test.YtlckamnadddlmaaGreatDoorBitsX
/- Tables of values: what is a table, its inputs, its values. -/
namespace Go.Proofs.YtlckamnadddlmaaGreatDoor
open Go.RowKit
set_option linter.unusedVariables false

/-- The number of inputs of a table, none of other texts. -/
def inpN (s : ByteArray) : Option Nat := if isB s then (List.range 7).find? (fun k => s.size == 2 ^ k) else none
def isT (s : ByteArray) : Bool := (inpN s).isSome
def inpI (s : ByteArray) : Int := match inpN s with | some k => (k : Int) | none => -1
theorem inpN_some {s : ByteArray} {k : Nat} (h : inpN s = some k) : isB s = true ∧ k < 7 ∧ s.size = 2 ^ k := by
  unfold inpN at h
  split at h
  · rename_i hb
    obtain ⟨h1, h2, _⟩ := List.find?_range_eq_some.1 h
    exact ⟨hb, by simpa using h2, by simpa using h1⟩
  · cases h
theorem inpN_of {s : ByteArray} {k : Nat} (hb : isB s = true) (hk : k < 7) (hs : s.size = 2 ^ k) : inpN s = some k := by
  unfold inpN
  rw [if_pos hb, List.find?_range_eq_some]
  refine ⟨by simp [hs], by simpa using hk, fun j hj => ?_⟩
  have : (2 : Nat) ^ j < 2 ^ k := Nat.pow_lt_pow_right (by omega) hj
  simp only [Bool.not_eq_true', beq_eq_false_iff_ne, ne_eq]
  omega
theorem inpN_none {s : ByteArray} (h : ∀ k, k < 7 → ¬ (s.size = 2 ^ k ∧ isB s = true)) : inpN s = none := by
  cases he : inpN s with
  | none => rfl
  | some k =>
    obtain ⟨a, b, c⟩ := inpN_some he
    exact absurd ⟨c, a⟩ (h k b)
theorem isT_ge (s : ByteArray) : decide ((0:Int) ≤ inpI s) = isT s := by
  unfold inpI isT
  cases inpN s with
  | none => rfl
  | some k => simp
theorem isT_iff {s : ByteArray} (h : isT s = true) : ∃ k, inpN s = some k ∧ k < 7 ∧ s.size = 2 ^ k ∧ isB s = true := by
  unfold isT at h
  obtain ⟨k, hk⟩ := Option.isSome_iff_exists.1 h
  obtain ⟨a, b, c⟩ := inpN_some hk
  exact ⟨k, hk, b, c, a⟩
theorem pow2_small : ∀ n, n < 65 → 1 ≤ n → ((n &&& (n - 1) == 0) = decide (∃ k, k < 7 ∧ n = 2 ^ k)) := by decide +kernel
theorem isT_code (s : ByteArray) (hn : inR s.size 1 64 = true) (hb : isB s = true) : isT s = (s.size &&& (s.size - 1) == 0) := by
  simp only [inR, Bool.and_eq_true, decide_eq_true_eq] at hn
  rw [pow2_small s.size (by omega) (by omega)]
  cases h : isT s with
  | true =>
    obtain ⟨k, _, h2, h3, _⟩ := isT_iff h
    exact (decide_eq_true ⟨k, h2, h3⟩).symm
  | false =>
    refine (decide_eq_false ?_).symm
    rintro ⟨k, h2, h3⟩
    unfold isT at h
    rw [inpN_of hb h2 h3] at h
    cases h
theorem isT_range {s : ByteArray} (h : isT s = true) : inR s.size 1 64 = true := by
  obtain ⟨k, _, h2, h3, _⟩ := isT_iff h
  have : ∀ k, k < 7 → inR ((2 ^ k : Nat) : Int) 1 64 = true := by decide
  rw [h3]
  exact this k h2


def valOk (s : ByteArray) (x : Int) : Bool := isT s && inR x 0 ((s.size : Int) - 1)
def RetV (w : World) (s : ByteArray) (x : Int) (e : Ending) (w' : World) : Prop := e = .returned (.tuple #[.int .i64 (if valOk s x then bitOf s x.toNat else 0), .bool (valOk s x)]) ∧ Below w.heap.size w w'
theorem retV_no {w w' : World} {s : ByteArray} {x : Int} (h : valOk s x = false) (hb : Below w.heap.size w w') : RetV w s x (.returned (.tuple #[.int .i64 0, .bool false])) w' := ⟨by rw [h]; rfl, hb⟩
theorem retV_yes {w w' : World} {s : ByteArray} {x v : Int} (h : valOk s x = true) (hv : bitOf s x.toNat = v) (hb : Below w.heap.size w w') : RetV w s x (.returned (.tuple #[.int .i64 v, .bool true])) w' := ⟨by rw [h, ← hv]; rfl, hb⟩
end Go.Proofs.YtlckamnadddlmaaGreatDoor

import Derived.Test.YtlckamnadddlmaaGreatDoorPmS
/- The counts that the program's law of patterns gathers from its last map. No condition. -/
namespace Go.Proofs.YtlckamnadddlmaaGreatDoor
open Go.RowKit Go.Maps
set_option linter.unusedVariables false

def cqL (L : List (List UInt8 × Nat)) (left : Lit → Bool) (n : Nat) : List Int := (List.range (n + 1)).map fun v => ((markN L (fun p => left (plKey p)) (fun s => s.2 == v) : Nat) : Int)
theorem cq_len (L : List (List UInt8 × Nat)) (left : Lit → Bool) (n : Nat) : (cqL L left n).length = n + 1 := by simp [cqL]
theorem cq_at {L : List (List UInt8 × Nat)} {left : Lit → Bool} {n v : Nat} (h : v ≤ n) : (cqL L left n).getD v 0 = ((markN L (fun p => left (plKey p)) (fun s => s.2 == v) : Nat) : Int) := by
  simp [cqL, List.getD, show v < n + 1 by omega]
theorem cq_start {L : List (List UInt8 × Nat)} {left : Lit → Bool} {n : Nat} (h : ∀ p ∈ L, left (plKey p) = true) : cqL L left n = List.replicate (n + 1) 0 := by
  apply List.ext_getElem?
  intro v
  by_cases hv : v < n + 1
  · rw [List.getElem?_replicate, if_pos hv]
    simp only [cqL, List.getElem?_map, List.getElem?_range hv, Option.map_some]
    rw [markN_start L _ _ h]
    rfl
  · rw [List.getElem?_eq_none (by rw [cq_len]; omega), List.getElem?_eq_none (by simp; omega)]
theorem cq_end {L : List (List UInt8 × Nat)} {left : Lit → Bool} {n : Nat} (h : ∀ p ∈ L, left (plKey p) = false) : cqL L left n = (List.range (n + 1)).map fun v => ((L.countP (fun s => s.2 == v) : Nat) : Int) := by
  unfold cqL
  apply List.map_congr_left
  intro v _
  rw [markN_end L _ _ h]
theorem markN_congr {α : Type} {L : List α} {l l' P : α → Bool} (h : ∀ x ∈ L, l x = l' x) : markN L l P = markN L l' P := by
  unfold markN
  apply List.countP_congr
  intro x hx
  rw [h x hx]
theorem cq_mark {L : List (List UInt8 × Nat)} {left : Lit → Bool} {p : List UInt8 × Nat} (hL : ∀ x ∈ L, vP x) (hp : vP p) (hl : left (plKey p) = true) (v : Nat) :
    markN L (fun x => left (plKey x) && !(plKey x).sameKey (plKey p)) (fun s => s.2 == v) = markN L (fun x => left (plKey x)) (fun s => s.2 == v) + (if p.2 == v then ctP L p else 0) := by
  have e1 : markN L (fun x => left (plKey x) && !(plKey x).sameKey (plKey p)) (fun s => s.2 == v) = markN L (fun x => left (plKey x) && !decide (x = p)) (fun s => s.2 == v) :=
    markN_congr fun x hx => by rw [key_same (hL x hx) hp]
  rw [e1]
  exact @markN_strike _ instBEqOfDecidableEq _ L (fun x => left (plKey x)) (fun x => left (plKey x) && !decide (x = p)) (fun s => s.2 == v) p hl (by simp) (fun x hx => by simp [hx])
theorem cq_step {L : List (List UInt8 × Nat)} {left : Lit → Bool} {p : List UInt8 × Nat} {n : Nat} (hL : ∀ x ∈ L, vP x) (hp : vP p) (hl : left (plKey p) = true) (hn : p.2 ≤ n) :
    (cqL L left n).set p.2 ((cqL L left n).getD p.2 0 + (ctP L p : Nat)) = cqL L (fun z => left z && !z.sameKey (plKey p)) n := by
  apply List.ext_getElem?
  intro v
  by_cases hv : v < n + 1
  · rw [List.getElem?_set, cq_len]
    have e2 : (cqL L (fun z => left z && !z.sameKey (plKey p)) n)[v]? = some (((markN L (fun x => left (plKey x)) (fun s => s.2 == v) + (if p.2 == v then ctP L p else 0) : Nat) : Int)) := by
      simp only [cqL, List.getElem?_map, List.getElem?_range hv, Option.map_some]
      rw [cq_mark hL hp hl v]
    rw [e2]
    by_cases h : p.2 = v
    · subst h
      rw [if_pos rfl, if_pos (by omega), cq_at (by omega)]
      simp
    · rw [if_neg h]
      simp only [cqL, List.getElem?_map, List.getElem?_range hv, Option.map_some]
      have h2 : (p.2 == v) = false := by simpa using h
      rw [h2]
      simp
  · rw [List.getElem?_eq_none (by rw [List.length_set, cq_len]; omega), List.getElem?_eq_none (by rw [cq_len]; omega)]
theorem cq_bd {L : List (List UInt8 × Nat)} {left : Lit → Bool} {n v : Nat} : 0 ≤ (cqL L left n).getD v 0 ∧ (cqL L left n).getD v 0 ≤ (L.length : Int) := by
  by_cases h : v ≤ n
  · rw [cq_at h]
    have := markN_le L (fun p => left (plKey p)) (fun s => s.2 == v)
    omega
  · simp only [List.getD, List.getElem?_eq_none (by rw [cq_len]; omega : (cqL L left n).length ≤ v), Option.getD_none]
    omega
end Go.Proofs.YtlckamnadddlmaaGreatDoor

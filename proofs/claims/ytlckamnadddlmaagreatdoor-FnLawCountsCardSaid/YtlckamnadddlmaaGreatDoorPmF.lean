import Derived.Test.YtlckamnadddlmaaGreatDoorPkP
import Derived.Maps.RangeWalk
import Derived.Maps.OwnOps
import Derived.Maps.OwnSet
import Derived.Maps.Views
/- A map whose keys are a text and a number, told by a function: plain facts. No condition. -/
namespace Go.Proofs.YtlckamnadddlmaaGreatDoor
open Go.RowKit Go.Maps
set_option linter.unusedVariables false

/-- A state: few bits, a small number. -/
def vP (p : List UInt8 × Nat) : Prop := p.1.length ≤ 10 ∧ p.2 ≤ 100
theorem vP.lt {p : List UInt8 × Nat} (h : vP p) : p.2 < 9223372036854775808 := by have := h.2; omega
theorem plKey_is (p : List UInt8 × Nat) : WideAt.IsKeyLit (plKey p) := by
  unfold plKey
  simp [WideAt.IsKeyLit]
theorem plKey_ne {p q : List UInt8 × Nat} (hp : vP p) (hq : vP q) (h : p ≠ q) : plKey p ≠ plKey q := fun e => h (plKey_inj hp.lt hq.lt e)
/-- The datum D has at each state what f says. -/
structure MapP {H : Type} (D : DataW H) (f : List UInt8 × Nat → Nat) : Prop where
  m : IsMap D
  a : ∀ p, vP p → D.atKey (plKey p) (.lit (.int .i64 0)) = .lit (.int .i64 (f p : Nat))
  h : ∀ p, vP p → 0 < f p → has D (plKey p) = true
  k : ∀ kl, has D kl = true → ∃ p, vP p ∧ kl = plKey p ∧ 0 < f p
theorem mapP_empty {H : Type} : MapP (.map [] : DataW H) (fun _ => 0) :=
  ⟨isMap_empty, fun p _ => rfl, fun p _ h => absurd h (Nat.lt_irrefl 0), fun kl h => by simp [has] at h⟩
theorem MapP.put {H : Type} {D : DataW H} {f : List UInt8 × Nat → Nat} (h : MapP D f) {p : List UInt8 × Nat} (hp : vP p) (x : Nat) (hx0 : 0 < x) : MapP (D.put (plKey p) (.lit (.int .i64 (x : Nat)))) (fun q => if q = p then x else f q) := by
  refine ⟨h.m.put _ _, fun q hq => ?_, fun q hq hx => ?_, fun kl hk => ?_⟩
  · by_cases e : q = p
    · subst e; rw [if_pos rfl]; exact atKey_put_same h.m (plKey_is _) _ _
    · rw [if_neg e, atKey_put_other (plKey_ne hq hp e)]; exact h.a q hq
  · by_cases e : q = p
    · subst e; exact has_put_same h.m (plKey_is _) _
    · rw [if_neg e] at hx
      rw [has_put_other (plKey_ne hq hp e)]; exact h.h q hq hx
  · by_cases e : kl = plKey p
    · exact ⟨p, hp, e, by rw [if_pos rfl]; exact hx0⟩
    · rw [has_put_other e] at hk
      obtain ⟨q, h1, h2, h3⟩ := h.k kl hk
      exact ⟨q, h1, h2, by rw [if_neg (fun h4 => e (by rw [h2, h4]))]; exact h3⟩
/-- The keys that are still to come, as states. -/
def lfP (left : Lit → Bool) (x : (List UInt8 × Nat) × Bool) : Bool := left (plKey x.1)
end Go.Proofs.YtlckamnadddlmaaGreatDoor

import Derived.Test.YtpineiocjaajnaaDoorOne
import Derived.Test.YtpineiocjaajnaaDoorOwnX
import Derived.BigRegion
import Derived.Deep.RegionLaw
import Derived.Deep.RegionLawGrows
/- The reference's source of drawn numbers: what is read from it is small and never negative. -/
namespace Go.Proofs.YtpineiocjaajnaaDoor
open Go.RowKit
set_option linter.unusedVariables false

/-- In the world w a slice of len bytes at a reads as zs. -/
def IsU8s (w : World) (a : Option Addr) (len : Nat) (zs : List Int) : Prop :=
  zs.length = len ∧ (∀ j, j < len → ∃ b off, a = some ⟨b, off, none⟩ ∧ w.cell? ⟨b, off + j, none⟩ = some (.int .u8 (zs.getD j 0))) ∧ ∀ z ∈ zs, 0 ≤ z ∧ z ≤ 255
theorem IsU8s.at {w a len zs} (h : IsU8s w a len zs) {j : Nat} (hj : j < len) :
    ∃ b off, a = some ⟨b, off, none⟩ ∧ w.cell? ⟨b, off + j, none⟩ = some (.int .u8 (zs.getD j 0)) := h.2.1 j hj
theorem IsU8s.bd {w a len zs} (h : IsU8s w a len zs) (j : Nat) : 0 ≤ zs.getD j 0 ∧ zs.getD j 0 ≤ 255 := by
  by_cases hj : j < zs.length
  · rw [getD_eq _ _ hj]; exact h.2.2 _ (List.getElem_mem hj)
  · simp [List.getD, List.getElem?_eq_none (Nat.le_of_not_lt hj)]
theorem IsU8s.below {w w' : World} {a len zs} (h : IsU8s w a len zs) (hb : Below w.heap.size w w') : IsU8s w' a len zs := by
  refine ⟨h.1, fun j hj => ?_, h.2.2⟩
  obtain ⟨b, off, ha, hc⟩ := h.2.1 j hj
  exact ⟨b, off, ha, (hb.cell (p := ⟨b, off + j, none⟩) (World.block_lt_of_cell? w _ hc)).trans hc⟩
/-- An argument of bytes as the row hands it over, read as a list. -/
theorem isU8s_of_row {w : World} {a : Option Addr} {len cap : Nat} {zs : List Int}
    (h : (a = none ∧ len = 0 ∧ cap = 0 ∧ zs = []) ∨ ∃ x, a = some x ∧ len ≤ cap ∧ cap ≤ maxLen ∧ zs.length = cap ∧ (∀ i, i < zs.length → w.cell? (x.add i) = some (.int .u8 (zs.getD i 0))) ∧ ∀ n ∈ zs, (Lit.int .u8 n).wf = true) :
    IsU8s w a len (zs.take len) := by
  rcases h with ⟨rfl, rfl, _, rfl⟩ | ⟨x, rfl, hl, hm, hz, hc, hw⟩
  · exact ⟨rfl, fun j hj => absurd hj (Nat.not_lt_zero j), fun z hz => by simp at hz⟩
  · refine ⟨by simp; omega, fun j hj => ?_, fun z hzm => ?_⟩
    · have h0 := hc 0 (by omega)
      have hsp : x.spot = none := by
        cases hs : x.spot with
        | none => rfl
        | some s =>
          have : x.add 0 = x := by simp [Addr.add]
          rw [this] at h0
          simp only [World.cell?, hs, Option.isSome_some, if_true] at h0
          split at h0 <;> simp_all
      have hj' := hc j (by omega)
      obtain ⟨b, off, sp⟩ := x
      simp only at hsp
      subst hsp
      refine ⟨b, off, rfl, ?_⟩
      have hadd : (⟨b, off, none⟩ : Addr).add j = ⟨b, off + j, none⟩ := by
        unfold Addr.add; split
        · rename_i h; subst h; rfl
        · rfl
      rw [hadd] at hj'
      rw [hj']
      simp [List.getD, hj]
    · have := hw z (List.mem_of_mem_take hzm)
      have := bounds_u8 this
      exact ⟨by omega, by omega⟩

/-- What a call owns, and the memory from before as it was. -/
def OwnAt (w0 w : World) (l : List (Nat × (Obj → Prop))) : Prop := Owns w w0.heap.size l ∧ Below w0.heap.size w0 w
theorem OwnAt.start (w : World) : OwnAt w w [] := ⟨Owns.nil _ _, Below.refl _ _⟩
theorem OwnAt.ret {w0 w w' : World} {l : List (Nat × (Obj → Prop))} (h : OwnAt w0 w l) (hb : Below w.heap.size w w') : OwnAt w0 w' l := ⟨h.1.below hb, bthen h.2 hb⟩
theorem OwnAt.new {w0 w : World} {l : List (Nat × (Obj → Prop))} (h : OwnAt w0 w l) {o : Obj} {φ : Obj → Prop} (hφ : φ o) : OwnAt w0 (w.alloc o) ((w.heap.size, φ) :: l) := ⟨h.1.new h.2.size hφ, h.2.alloc h.2.size o⟩
theorem OwnAt.drewN {w0 w : World} {l : List (Nat × (Obj → Prop))} (h : OwnAt w0 w l) (n : Nat) : OwnAt w0 (w.drewN n) l := h.ret (drewN_below _ _)

end Go.Proofs.YtpineiocjaajnaaDoor

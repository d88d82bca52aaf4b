import Derived.Test.YtklnfhjgbmfilaaRejCost
/- Slices of fractions: what is owned as a row of numbers, two a fraction; the laws' helpers on them. -/
namespace Go.Proofs.Ytklnfhjgbmfilaa
open Go.RowKit
set_option linter.unusedVariables false

theorem IsInts.of_own2 {w : World} {B T : Nat} {a : Option Addr} {n cap : Nat} {zs : List Int} (h : w.ownsRow B T 2 (.slice a n cap) n (zs.map (Value.int .i64))) : IsInts w a (n * 2) zs := by
  have hl : zs.length = n * 2 := by simpa using h.1
  refine ⟨by omega, fun j hj => ?_⟩
  rcases h.2 with ⟨e, h0⟩ | ⟨g, c, cur, e, _⟩
  · omega
  · simp only [Value.slice.injEq] at e
    obtain ⟨rfl, _, rfl⟩ := e
    refine ⟨g, 0, rfl, ?_⟩
    have := h.cellAt j (by omega)
    rw [Nat.zero_add, this]
    simp [List.getD, List.getElem?_eq_getElem (show j < zs.length by omega)]
set_option maxHeartbeats 800000 in
theorem eqFrS_same (a a' : Option Addr) (n cap cap' : Nat) (zs : List Int) (w : World) (hb : n ≤ 1048576) (hx : IsInts w a (n * 2) zs) (hy : IsInts w a' (n * 2) zs) :
    Calls Try.prog 74 #[.slice a n cap, .slice a' n cap'] w (Ret w (.bool true)) := by
  have HX := Lib.hid (And.intro hx hy)
  clear hx hy
  go_enter Try.func74, Try.ntmps74
  go_wp2
  go_loopw [5] (fun i wr => ∃ k : Nat, k ≤ n ∧ i = .int .i64 (k : Nat) ∧ Hid (Below w.heap.size w wr)) (fun i _ => n - (intOf i).toNat)
  case atStart => exact ⟨0, Nat.zero_le _, rfl, Lib.hid (Below.refl _ _)⟩
  case round =>
    obtain ⟨k, hk, rfl, HB⟩ := hrel
    by_cases hlt : k < n
    · have hk0 : (0:Int) ≤ (k:Int) := by omega
      have hki : (k:Int) < (n:Int) := by omega
      have hx := HX.out.1.below HB.out
      have hy := HX.out.2.below HB.out
      obtain ⟨b, off, rfl, c1⟩ := hx.at (show k * 2 < n * 2 by omega)
      obtain ⟨b1, off1, e1, c2⟩ := hx.at (show k * 2 + 1 < n * 2 by omega)
      simp only [Option.some.injEq, Addr.mk.injEq] at e1
      obtain ⟨rfl, rfl, _⟩ := e1
      obtain ⟨b', off', rfl, d1⟩ := hy.at (show k * 2 < n * 2 by omega)
      obtain ⟨b1, off1, e1, d2⟩ := hy.at (show k * 2 + 1 < n * 2 by omega)
      simp only [Option.some.injEq, Addr.mk.injEq] at e1
      obtain ⟨rfl, rfl, _⟩ := e1
      obtain ⟨p, hp⟩ : ∃ p, zs.getD (k * 2) 0 = p := ⟨_, rfl⟩
      obtain ⟨q, hq⟩ : ∃ q, zs.getD (k * 2 + 1) 0 = q := ⟨_, rfl⟩
      rw [hp] at c1 d1
      rw [hq, ← Nat.add_assoc] at c2 d2
      clear hp hq hx hy
      go_wp2_with fail
      go_region_law (first | (go_simp; go_at_call 18; refine (eqFraction_same p q _).mono ?_; rintro e w5 ⟨rfl, hb5⟩))
      all_goals (try go_wp2_with fail)
      all_goals
        go_roundw
        case rel => exact ⟨k + 1, by omega, by go_num, Lib.hid (bthen HB.out (bthen (drewN_below _ 1) hb5))⟩
        case measure => simp [intOf]; omega
    · go_wp2
      go_ret
      exact ⟨rfl, HB.out⟩
end Go.Proofs.Ytklnfhjgbmfilaa

import Derived.Test.YtaneocedklnajaaGreatRejCost
/- Slices of fractions: what is owned as a row of numbers, two a fraction; the laws' helpers on them. -/
namespace Go.Proofs.YtaneocedklnajaaGreat
open Go.RowKit
set_option linter.unusedVariables false

theorem IsInts.of_own2 {w : World} {B T : Nat} {a : Option Addr} {n cap : Nat} {zs : List Int} (h : w.ownsRow B T 2 (.slice a n cap) n (zs.map (Value.int .i64))) : IsInts w a (n * 2) zs := by
  have hl : zs.length = n * 2 := by simpa using h.1
  refine ⟨by omega, fun j hj => ?_⟩
  rcases h.2 with ⟨e, h0⟩ | ⟨g, c, cur, e, _⟩
  · omega
  · simp only [Value.slice.injEq] at e
    obtain ⟨rfl, _, rfl⟩ := e
    refine ⟨g, 0, rfl, ?_⟩
    have := h.cellAt j (by omega)
    rw [Nat.zero_add, this]
    simp [List.getD, List.getElem?_eq_getElem (show j < zs.length by omega)]
set_option maxHeartbeats 800000 in
theorem eqFrS_same (a a' : Option Addr) (n cap cap' : Nat) (zs : List Int) (w : World) (hb : n ≤ 1048576) (hx : IsInts w a (n * 2) zs) (hy : IsInts w a' (n * 2) zs) :
    Calls Tryz.prog 39 #[.slice a n cap, .slice a' n cap'] w (Ret w (.bool true)) := by
  have HX := Lib.hid (And.intro hx hy)
  clear hx hy
  go_enter Tryz.func39, Tryz.ntmps39
  go_wp2
  go_loopw [5] (fun i wr => ∃ k : Nat, k ≤ n ∧ i = .int .i64 (k : Nat) ∧ Hid (Below w.heap.size w wr)) (fun i _ => n - (intOf i).toNat)
  case atStart => exact ⟨0, Nat.zero_le _, rfl, Lib.hid (Below.refl _ _)⟩
  case round =>
    obtain ⟨k, hk, rfl, HB⟩ := hrel
    by_cases hlt : k < n
    · have hk0 : (0:Int) ≤ (k:Int) := by omega
      have hki : (k:Int) < (n:Int) := by omega
      have hx := HX.out.1.below HB.out
      have hy := HX.out.2.below HB.out
      obtain ⟨b, off, rfl, c1⟩ := hx.at (show k * 2 < n * 2 by omega)
      obtain ⟨b1, off1, e1, c2⟩ := hx.at (show k * 2 + 1 < n * 2 by omega)
      simp only [Option.some.injEq, Addr.mk.injEq] at e1
      obtain ⟨rfl, rfl, _⟩ := e1
      obtain ⟨b', off', rfl, d1⟩ := hy.at (show k * 2 < n * 2 by omega)
      obtain ⟨b1, off1, e1, d2⟩ := hy.at (show k * 2 + 1 < n * 2 by omega)
      simp only [Option.some.injEq, Addr.mk.injEq] at e1
      obtain ⟨rfl, rfl, _⟩ := e1
      obtain ⟨p, hp⟩ : ∃ p, zs.getD (k * 2) 0 = p := ⟨_, rfl⟩
      obtain ⟨q, hq⟩ : ∃ q, zs.getD (k * 2 + 1) 0 = q := ⟨_, rfl⟩
      rw [hp] at c1 d1
      rw [hq, ← Nat.add_assoc] at c2 d2
      clear hp hq hx hy
      go_wp2_with fail
      go_region_law (first | (go_simp; go_at_call 83; refine (eqFraction_same p q _).mono ?_; rintro e w5 ⟨rfl, hb5⟩))
      all_goals (try go_wp2_with fail)
      all_goals
        go_roundw
        case rel => exact ⟨k + 1, by omega, by go_num, Lib.hid (bthen HB.out (bthen (drewN_below _ 1) hb5))⟩
        case measure => simp [intOf]; omega
    · go_wp2
      go_ret
      exact ⟨rfl, HB.out⟩
set_option maxHeartbeats 800000 in
theorem markFrS_any (B : Nat) (a : Option Addr) (n cap : Nat) (zs : List Int) (k0 : Nat) (w : World) (hb : n ≤ 1048576) (hk0 : k0 ≤ 1152921504606846976) (hown : w.ownsRow B 40 2 (.slice a n cap) n (zs.map (Value.int .i64))) :
    Calls Tryz.prog 41 #[.slice a n cap, .int .i64 (k0 : Nat)] w fun e w' =>
      e = .returned (.int .i64 ((k0 + n * 2 : Nat) : Int)) ∧ w'.ownsRow B 40 2 (.slice a n cap) n ((marks k0 (n * 2)).map (Value.int .i64)) ∧ w.grownBy w' (Value.ownBlock (.slice a n cap)) := by
  have hlz : zs.length = n * 2 := by simpa using hown.1
  have HZ := Lib.hid hlz
  have HO := Lib.hid (And.intro (show w.ownsRow B 40 2 (.slice a n cap) n ((marked zs k0 0).map (Value.int .i64)) by simpa [marked, marks] using hown) (World.grownBy.refl w (Value.ownBlock (.slice a n cap))))
  clear hlz hown
  go_enter Tryz.func41, Tryz.ntmps41
  go_wp2
  go_loopw [5, 1] (fun i m wr => ∃ j : Nat, j ≤ n ∧ i = .int .i64 (j : Nat) ∧ m = .int .i64 ((k0 + j * 2 : Nat) : Int) ∧ Hid (wr.ownsRow B 40 2 (.slice a n cap) n ((marked zs k0 (j * 2)).map (Value.int .i64)) ∧ w.grownBy wr (Value.ownBlock (.slice a n cap)))) (fun i _ _ => n - (intOf i).toNat)
  case atStart => exact ⟨0, Nat.zero_le _, rfl, rfl, HO⟩
  case round =>
    clear HO
    obtain ⟨j, hj, rfl, rfl, HO⟩ := hrel
    by_cases hlt : j < n
    · have hx := IsInts.of_own2 HO.out.1
      obtain ⟨b, off, ha, h1⟩ := hx.at (show j * 2 < n * 2 by omega)
      obtain ⟨b1, off1, e1, h2⟩ := hx.at (show j * 2 + 1 < n * 2 by omega)
      rcases HO.out.1.2 with ⟨e, h0⟩ | ⟨g, c, cur, e, hB, hg, _⟩
      · omega
      simp only [Value.slice.injEq] at e
      obtain ⟨e, _, rfl⟩ := e
      subst e
      simp only [Option.some.injEq, Addr.mk.injEq] at ha e1
      obtain ⟨rfl, rfl, _⟩ := ha
      obtain ⟨rfl, rfl, _⟩ := e1
      rw [Nat.zero_add] at h1 h2
      have hfr := HO.out.1.frozenAt (j * 2)
      have hfr2 := HO.out.1.frozenAt (j * 2 + 1)
      have hst := HO.out.1.stored (j * 2) (.int .i64 ((k0 + j * 2 : Nat) : Int))
      rw [marked_set zs k0 (j * 2) (by rw [HZ.out]; omega)] at hst
      have hst2 := hst.1.stored (j * 2 + 1) (.int .i64 ((k0 + (j * 2 + 1) : Nat) : Int))
      rw [marked_set zs k0 (j * 2 + 1) (by rw [HZ.out]; omega)] at hst2
      have hgr := grownBy_trans HO.out.2 (grownBy_trans hst.2 hst2.2)
      have hst3 := hst2.1
      rw [show ((k0 + j * 2 : Nat) : Int) = (k0 : Int) + (j : Int) * 2 by omega, show ((k0 + (j * 2 + 1) : Nat) : Int) = (k0 : Int) + (j : Int) * 2 + 1 by omega] at hst3 hgr
      have Hst := Lib.hid (And.intro hst3 hgr)
      clear hst3 hgr
      have hj0 : (0:Int) ≤ (j:Int) := by omega
      have hjl : (j:Int) < (n:Int) := by omega
      clear hst hst2 HO hg hx
      go_wp2
      go_roundw
      case rel => exact ⟨j + 1, by omega, by go_num, by go_num, Lib.hid (by rw [show (j + 1) * 2 = j * 2 + 1 + 1 by omega]; exact Hst.out)⟩
      case measure => simp [intOf]; omega
    · obtain rfl : j = n := by omega
      go_wp2
      go_ret
      exact ⟨rfl, by have := HO.out.1; rw [show marked zs k0 (j * 2) = marks k0 (j * 2) by unfold marked; rw [List.drop_eq_nil_of_le (by rw [HZ.out]; exact Nat.le_refl _), List.append_nil]] at this; exact this, HO.out.2⟩
theorem heldFrS_any (a : Option Addr) (n cap : Nat) (k0 : Nat) (w : World) (hb : n ≤ 1048576) (hk0 : k0 ≤ 1152921504606846976) (hx : IsInts w a (n * 2) (marks k0 (n * 2))) :
    Calls Tryz.prog 43 #[.slice a n cap, .int .i64 (k0 : Nat)] w fun e w' => e = .returned (.int .i64 ((k0 + n * 2 : Nat) : Int)) ∧ Below w.heap.size w w' := by
  have HX := Lib.hid hx
  clear hx
  go_enter Tryz.func43, Tryz.ntmps43
  go_wp2
  go_loopw [5, 1] (fun i m wr => ∃ j : Nat, j ≤ n ∧ i = .int .i64 (j : Nat) ∧ m = .int .i64 ((k0 + j * 2 : Nat) : Int) ∧ wr = w) (fun i _ _ => n - (intOf i).toNat)
  case atStart => exact ⟨0, Nat.zero_le _, rfl, rfl, rfl⟩
  case round =>
    obtain ⟨j, hj, rfl, rfl, rfl⟩ := hrel
    by_cases hlt : j < n
    · obtain ⟨b, off, rfl, c1⟩ := HX.out.at (show j * 2 < n * 2 by omega)
      obtain ⟨b1, off1, e1, c2⟩ := HX.out.at (show j * 2 + 1 < n * 2 by omega)
      simp only [Option.some.injEq, Addr.mk.injEq] at e1
      obtain ⟨rfl, rfl, _⟩ := e1
      rw [marks_getD _ _ _ (by omega)] at c1
      rw [marks_getD _ _ _ (by omega), ← Nat.add_assoc] at c2
      have hj0 : (0:Int) ≤ (j:Int) := by omega
      have hjl : (j:Int) < (n:Int) := by omega
      have ha : ((k0 + (j * 2 + 1) : Nat) : Int) = ((k0 + j * 2 : Nat) : Int) + 1 := by omega
      rw [ha] at c2
      obtain ⟨z, hz⟩ : ∃ z : Int, ((k0 + j * 2 : Nat) : Int) = z := ⟨_, rfl⟩
      have hz1 : 0 ≤ z := by omega
      have hz2 : z ≤ 1152921504609000000 := by omega
      rw [hz] at c1 c2 ⊢
      have HZ := Lib.hid hz
      clear hz ha
      go_wp2
      go_roundw
      case rel => exact ⟨j + 1, by omega, by go_num, by have := HZ.out; go_num, trivial⟩
      case measure => simp [intOf]; omega
    · obtain rfl : j = n := by omega
      go_wp2
      go_ret
      exact ⟨rfl, Below.refl _ _⟩
end Go.Proofs.YtaneocedklnajaaGreat

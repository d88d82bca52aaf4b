import Derived.Test.YtklnfhjgbmfilaaFMul
/- The reference's wide numbers: sum, difference, order. Condition: the numbers stay below 2 to the power of 127. -/
namespace Go.Proofs.Ytklnfhjgbmfilaa
open Go.RowKit
set_option linter.unusedVariables false

/-- A wide number in two words. -/
def wv (z : Nat) : Value := .agg #[.int .u64 ((z / 18446744073709551616 : Nat) : Int), .int .u64 ((z % 18446744073709551616 : Nat) : Int)]
theorem wv_of {z h l : Nat} (hl : l < 18446744073709551616) (e : z = h * 18446744073709551616 + l) : wv z = .agg #[.int .u64 (h : Int), .int .u64 (l : Int)] := by
  unfold wv
  rw [show z / 18446744073709551616 = h by omega, show z % 18446744073709551616 = l by omega]
theorem below_4 (w : World) (o1 o2 o3 o4 : Obj) : Below w.heap.size w ((((w.alloc o1).alloc o2).alloc o3).alloc o4) := ((((Below.refl _ w).alloc (Nat.le_refl _) _).alloc (by simp) _).alloc (by simp only [alloc_size]; omega) _).alloc (by simp only [alloc_size]; omega) _
set_option maxHeartbeats 800000 in
theorem l01Plus_any (x y : Nat) (w : World) (hx : x < 2 ^ 126) (hy : y < 2 ^ 126) : Calls Try.prog 89 #[wv x, wv y] w fun e w' => e = .returned (wv (x + y)) ∧ Below w.heap.size w w' := by
  unfold wv
  obtain ⟨a, ha⟩ : ∃ a, x / 18446744073709551616 = a := ⟨_, rfl⟩
  obtain ⟨b, hb⟩ : ∃ b, x % 18446744073709551616 = b := ⟨_, rfl⟩
  obtain ⟨c, hc⟩ : ∃ c, y / 18446744073709551616 = c := ⟨_, rfl⟩
  obtain ⟨d, hd⟩ : ∃ d, y % 18446744073709551616 = d := ⟨_, rfl⟩
  obtain ⟨h, hh⟩ : ∃ h, (x + y) / 18446744073709551616 = h := ⟨_, rfl⟩
  obtain ⟨l, hl⟩ : ∃ l, (x + y) % 18446744073709551616 = l := ⟨_, rfl⟩
  rw [ha, hb, hc, hd, hh, hl]
  have hs : IntKind.u64.wrap ((a : Int) + (c : Int)) = (a : Int) + (c : Int) := u64_in (by omega) (by omega)
  have ht : IntKind.u64.wrap ((b : Int) + (d : Int)) = (l : Int) := by show ((b : Int) + (d : Int)) % 18446744073709551616 = _; omega
  by_cases hlt : (l : Int) < (b : Int)
  · have hu : IntKind.u64.wrap ((a : Int) + (c : Int) + 1) = (h : Int) := by rw [u64_in (by omega) (by omega)]; omega
    clear ha hb hc hd hh hl hx hy
    go_enter Try.func89, Try.ntmps89
    go_wp2_with fail
    refine bodyPost_ret (v := .agg #[.int .u64 (h : Int), .int .u64 (l : Int)]) (by simp [results, Try.results89, go_sem, *]) rfl ⟨rfl, ?_⟩
    exact below_4 w _ _ _ _
  · have hu : (a : Int) + (c : Int) = (h : Int) := by omega
    have hwh : IntKind.u64.wrap (h : Int) = (h : Int) := u64_in (by omega) (by omega)
    clear ha hb hc hd hh hl hx hy
    go_enter Try.func89, Try.ntmps89
    go_wp2_with fail
    refine bodyPost_ret (v := .agg #[.int .u64 (h : Int), .int .u64 (l : Int)]) (by simp [results, Try.results89, go_sem, *]) rfl ⟨rfl, ?_⟩
    exact below_4 w _ _ _ _
set_option maxHeartbeats 800000 in
theorem l01Minus_any (x y : Nat) (w : World) (hx : x < 2 ^ 127) (hy : y ≤ x) : Calls Try.prog 91 #[wv x, wv y] w fun e w' => e = .returned (wv (x - y)) ∧ Below w.heap.size w w' := by
  unfold wv
  obtain ⟨a, ha⟩ : ∃ a, x / 18446744073709551616 = a := ⟨_, rfl⟩
  obtain ⟨b, hb⟩ : ∃ b, x % 18446744073709551616 = b := ⟨_, rfl⟩
  obtain ⟨c, hc⟩ : ∃ c, y / 18446744073709551616 = c := ⟨_, rfl⟩
  obtain ⟨d, hd⟩ : ∃ d, y % 18446744073709551616 = d := ⟨_, rfl⟩
  obtain ⟨h, hh⟩ : ∃ h, (x - y) / 18446744073709551616 = h := ⟨_, rfl⟩
  obtain ⟨l, hl⟩ : ∃ l, (x - y) % 18446744073709551616 = l := ⟨_, rfl⟩
  rw [ha, hb, hc, hd, hh, hl]
  have hs : IntKind.u64.wrap ((a : Int) - (c : Int)) = (a : Int) - (c : Int) := u64_in (by omega) (by omega)
  have ht : IntKind.u64.wrap ((b : Int) - (d : Int)) = (l : Int) := by show ((b : Int) - (d : Int)) % 18446744073709551616 = _; omega
  by_cases hlt : (b : Int) < (d : Int)
  · have hu : IntKind.u64.wrap ((a : Int) - (c : Int) - 1) = (h : Int) := by rw [u64_in (by omega) (by omega)]; omega
    clear ha hb hc hd hh hl hx hy
    go_enter Try.func91, Try.ntmps91
    go_wp2_with fail
    refine bodyPost_ret (v := .agg #[.int .u64 (h : Int), .int .u64 (l : Int)]) (by simp [results, Try.results91, go_sem, *]) rfl ⟨rfl, ?_⟩
    exact below_4 w _ _ _ _
  · have hu : (a : Int) - (c : Int) = (h : Int) := by omega
    have hwh : IntKind.u64.wrap (h : Int) = (h : Int) := u64_in (by omega) (by omega)
    clear ha hb hc hd hh hl hx hy
    go_enter Try.func91, Try.ntmps91
    go_wp2_with fail
    refine bodyPost_ret (v := .agg #[.int .u64 (h : Int), .int .u64 (l : Int)]) (by simp [results, Try.results91, go_sem, *]) rfl ⟨rfl, ?_⟩
    exact below_4 w _ _ _ _
set_option maxHeartbeats 800000 in
theorem l01Less_any (x y : Nat) (w : World) : Calls Try.prog 90 #[wv x, wv y] w fun e w' => e = .returned (.bool (decide (x < y))) ∧ Below w.heap.size w w' := by
  unfold wv
  obtain ⟨a, ha⟩ : ∃ a, x / 18446744073709551616 = a := ⟨_, rfl⟩
  obtain ⟨b, hb⟩ : ∃ b, x % 18446744073709551616 = b := ⟨_, rfl⟩
  obtain ⟨c, hc⟩ : ∃ c, y / 18446744073709551616 = c := ⟨_, rfl⟩
  obtain ⟨d, hd⟩ : ∃ d, y % 18446744073709551616 = d := ⟨_, rfl⟩
  rw [ha, hb, hc, hd]
  by_cases h1 : (a : Int) < (c : Int)
  · rw [decide_eq_true (show x < y by omega)]
    clear ha hb hc hd
    go_enter Try.func90, Try.ntmps90
    go_wp2_with fail
    go_ret
    exact ⟨rfl, ((Below.refl _ w).alloc (Nat.le_refl _) _).alloc (by simp) _⟩
  · by_cases h2 : a = c
    · subst h2
      have h2b : ((a : Int) == (a : Int)) = true := by simp
      by_cases h3 : (b : Int) < (d : Int)
      · rw [decide_eq_true (show x < y by omega)]
        clear ha hb hc hd
        go_enter Try.func90, Try.ntmps90
        go_wp2_with fail
        go_ret
        exact ⟨rfl, ((Below.refl _ w).alloc (Nat.le_refl _) _).alloc (by simp) _⟩
      · rw [decide_eq_false (show ¬ x < y by omega)]
        clear ha hb hc hd
        go_enter Try.func90, Try.ntmps90
        go_wp2_with fail
        go_ret
        exact ⟨rfl, ((Below.refl _ w).alloc (Nat.le_refl _) _).alloc (by simp) _⟩
    · rw [decide_eq_false (show ¬ x < y by omega)]
      have h2b : ((a : Int) == (c : Int)) = false := by rw [beq_eq_false_iff_ne]; omega
      have h2i : ¬ (a : Int) = (c : Int) := by omega
      clear ha hb hc hd
      go_enter Try.func90, Try.ntmps90
      go_wp2_with fail
      go_ret
      exact ⟨rfl, ((Below.refl _ w).alloc (Nat.le_refl _) _).alloc (by simp) _⟩
end Go.Proofs.Ytklnfhjgbmfilaa

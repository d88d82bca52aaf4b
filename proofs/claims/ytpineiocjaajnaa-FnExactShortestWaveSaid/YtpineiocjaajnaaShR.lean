import Derived.Test.YtpineiocjaajnaaShA
import Derived.Test.YtpineiocjaajnaaCgV
import Derived.Test.YtpineiocjaajnaaVecR
/- The reference's helpers on lists of few small numbers. Conditions: few and small numbers. -/
namespace Go.Proofs.Ytpineiocjaajnaa
open Go.RowKit
set_option linter.unusedVariables false

/-- A call's answer: a list that reads so. -/
def RdL (w : World) (xs : List Int) (e : Ending) (w' : World) : Prop := ∃ a c, e = .returned (.slice a xs.length c) ∧ IsInts w' a xs.length xs ∧ Below w.heap.size w w'
/-- A call's answer: a list that reads so, in the first new block. -/
def RdN (w : World) (xs : List Int) (e : Ending) (w' : World) : Prop := ∃ c, e = .returned (.slice (some ⟨w.heap.size, 0, none⟩) xs.length c) ∧ IsInts w' (some ⟨w.heap.size, 0, none⟩) xs.length xs ∧ Below w.heap.size w w'
theorem near_any (n m : Int) (w : World) (hm : 0 < m) (hm2 : m ≤ 1000000) : Calls Try.prog 88 #[.int .i64 n, .int .i64 m] w fun e w' => e = .returned (.int .i64 (nearM n m)) ∧ w' = w := by
  have m0 : ¬ m = 0 := by omega
  have m1 : ¬ m = -1 := by omega
  have mb : (m == 0) = false := by simpa using m0
  have hN : nearM n m = if m < 2 * (n % m) then n % m - m else n % m := rfl
  obtain ⟨r, hr⟩ : ∃ r, n.tmod m = r := ⟨_, rfl⟩
  have hrb : -m < r ∧ r < m := by
    rw [← hr]
    exact ⟨Int.lt_tmod_of_pos n hm, Int.tmod_lt_of_pos n hm⟩
  have hr2 : n % m = if r < 0 then r + m else r := by
    have h1 := Int.tmod_add_mul_tdiv n m
    have h2 : n = r + m * n.tdiv m := by omega
    have h3 : n % m = r % m := by rw [h2, Int.add_mul_emod_self_left]
    rw [h3]
    split
    · rename_i h
      have h4 : (r + m) % m = r + m := Int.emod_eq_of_lt (by omega) (by omega)
      rw [Int.add_emod_right] at h4
      exact h4
    · rename_i h
      exact Int.emod_eq_of_lt (by omega) (by omega)
  have hrw : IntKind.i64.wrap r = r := IntWalk.i64_in _ (by omega)
  rw [hN, hr2]
  clear hN hr2
  by_cases hneg : r < 0
  · rw [if_pos hneg]
    have hw1 : IntKind.i64.wrap (r + m) = r + m := IntWalk.i64_in _ (by omega)
    obtain ⟨s, hs⟩ : ∃ s, r + m = s := ⟨_, rfl⟩
    have hsw : IntKind.i64.wrap (2 * s) = 2 * s := IntWalk.i64_in _ (by omega)
    have hsw2 : IntKind.i64.wrap (s - m) = s - m := IntWalk.i64_in _ (by omega)
    rw [hs]
    by_cases hb : m < 2 * s
    · have H := Lib.hid (show (if m < 2 * s then s - m else s) = s - m from if_pos hb)
      rw [H.out]
      go_enter Try.func88, Try.ntmps88
      go_wp2
      go_ret
      exact ⟨by go_num, rfl⟩
    · have H := Lib.hid (show (if m < 2 * s then s - m else s) = s from if_neg hb)
      rw [H.out]
      go_enter Try.func88, Try.ntmps88
      go_wp2
      go_ret
      exact ⟨by go_num, rfl⟩
  · rw [if_neg hneg]
    have hsw : IntKind.i64.wrap (2 * r) = 2 * r := IntWalk.i64_in _ (by omega)
    have hsw2 : IntKind.i64.wrap (r - m) = r - m := IntWalk.i64_in _ (by omega)
    by_cases hb : m < 2 * r
    · have H := Lib.hid (show (if m < 2 * r then r - m else r) = r - m from if_pos hb)
      rw [H.out]
      go_enter Try.func88, Try.ntmps88
      go_wp2
      go_ret
      exact ⟨by go_num, rfl⟩
    · have H := Lib.hid (show (if m < 2 * r then r - m else r) = r from if_neg hb)
      rw [H.out]
      go_enter Try.func88, Try.ntmps88
      go_wp2
      go_ret
      exact ⟨by go_num, rfl⟩
theorem ints_one (w : World) (t : Nat) (x : Int) : IsInts (w.alloc (.cells #[.int .i64 x] t (0, 0))) (some ⟨w.heap.size, 0, none⟩) 1 [x] := by
  refine ⟨rfl, fun j hj => ⟨_, _, rfl, ?_⟩⟩
  obtain rfl : j = 0 := by omega
  have h := heap_at_new w (.cells #[.int .i64 x] t (0, 0))
  simp only [World.cell?, h]; rfl
theorem ints_two (w : World) (t : Nat) (x y : Int) : IsInts (w.alloc (.cells #[.int .i64 x, .int .i64 y] t (0, 0))) (some ⟨w.heap.size, 0, none⟩) 2 [x, y] := by
  refine ⟨rfl, fun j hj => ⟨_, _, rfl, ?_⟩⟩
  have h := heap_at_new w (.cells #[.int .i64 x, .int .i64 y] t (0, 0))
  rcases (show j = 0 ∨ j = 1 by omega) with rfl | rfl <;> simp only [World.cell?, h] <;> rfl
theorem ints_three (w : World) (t : Nat) (x y z : Int) : IsInts (w.alloc (.cells #[.int .i64 x, .int .i64 y, .int .i64 z] t (0, 0))) (some ⟨w.heap.size, 0, none⟩) 3 [x, y, z] := by
  refine ⟨rfl, fun j hj => ⟨_, _, rfl, ?_⟩⟩
  have h := heap_at_new w (.cells #[.int .i64 x, .int .i64 y, .int .i64 z] t (0, 0))
  rcases (show j = 0 ∨ j = 1 ∨ j = 2 by omega) with rfl | rfl | rfl <;> simp only [World.cell?, h] <;> rfl
theorem two_any (n m : Int) (w : World) (hm : 0 < m) (hm2 : m ≤ 1000000) : Calls Try.prog 53 #[.int .i64 n, .int .i64 m] w (RdN w (twoM n m)) := by
  have HN := Lib.hid (near_any n m w hm hm2)
  have hb := nearM_bd n m hm
  have h2 : twoM n m = if 2 * nearM n m = m then [-nearM n m, nearM n m] else [nearM n m] := rfl
  obtain ⟨r, hr⟩ : ∃ r, nearM n m = r := ⟨_, rfl⟩
  rw [hr] at HN hb h2
  have hw1 : IntKind.i64.wrap (2 * r) = 2 * r := IntWalk.i64_in _ (by omega)
  have hw2 : IntKind.i64.wrap (-r) = -r := IntWalk.i64_in _ (by omega)
  clear hr
  by_cases he : 2 * r = m
  · rw [if_pos he] at h2
    rw [h2]
    have hI := Lib.hid (And.intro (ints_two w 2 (-r) r) ((Below.refl _ w).alloc (Nat.le_refl _) (.cells #[.int .i64 (-r), .int .i64 r] 2)))
    have heb : (2 * r == m) = true := by simpa using he
    clear h2
    go_enter Try.func53, Try.ntmps53
    go_wp2_with fail
    refine HN.out.mono ?_
    rintro e w' ⟨rfl, rfl⟩
    go_wp2_with fail
    go_ret
    exact ⟨_, rfl, hI.out.1, hI.out.2⟩
  · rw [if_neg he] at h2
    rw [h2]
    have hI := Lib.hid (And.intro (ints_one w 2 r) ((Below.refl _ w).alloc (Nat.le_refl _) (.cells #[.int .i64 r] 2)))
    have heb : (2 * r == m) = false := by simpa using he
    clear h2
    go_enter Try.func53, Try.ntmps53
    go_wp2_with fail
    refine HN.out.mono ?_
    rintro e w' ⟨rfl, rfl⟩
    go_wp2_with fail
    go_ret
    exact ⟨_, rfl, hI.out.1, hI.out.2⟩
theorem squares_any (a : Option Addr) (len cap : Nat) (xs : List Int) (w : World) (hx : IsInts w a len xs) (hs : SmL xs) : Calls Try.prog 28 #[.slice a len cap] w fun e w' => e = .returned (.int .i64 (sqL xs)) ∧ Below w.heap.size w w' := by
  have hxl := hx.length
  have HX := Lib.hid hx
  have HSM := Lib.hid hs
  have hl4 : len ≤ 4 := by rw [← hxl]; exact hs.1
  clear hx hs
  go_enter Try.func28, Try.ntmps28
  go_wp2
  go_loopw [4, 3] (fun i s wr => ∃ k : Nat, k ≤ len ∧ i = .int .i64 (k : Nat) ∧ s = .int .i64 (sqL (xs.take k)) ∧ Hid (Below w.heap.size w wr)) (fun i _ _ => len - (intOf i).toNat)
  case atStart => exact ⟨0, Nat.zero_le _, rfl, rfl, Lib.hid (Below.refl _ _)⟩
  case round =>
    obtain ⟨k, hk, rfl, rfl, HB⟩ := hrel
    by_cases hlt : k < len
    · have hki : (k : Int) < (len : Int) := by omega
      have hk0 : (0 : Int) ≤ (k : Int) := by omega
      obtain ⟨b, off, rfl, cc⟩ := (HX.out.below HB.out).at hlt
      have h1 := sqL_take (xs := xs) (k := k) (by omega)
      have h2 := sqL_bd HSM.out k (by omega)
      have h3 := sq_small (HSM.out.2 k)
      have h4 := sqL_nonneg (xs.take k)
      obtain ⟨x, hx⟩ : ∃ x, xs.getD k 0 = x := ⟨_, rfl⟩
      rw [hx] at cc h1 h3
      obtain ⟨s0, hs0⟩ : ∃ s, sqL (xs.take k) = s := ⟨_, rfl⟩
      rw [hs0] at h1 h2 h4 ⊢
      obtain ⟨q, hq⟩ : ∃ q, x * x = q := ⟨_, rfl⟩
      rw [hq] at h1 h3
      have hqw : IntKind.i64.wrap q = q := IntWalk.i64_in _ (by omega)
      have hsw : IntKind.i64.wrap (s0 + q) = s0 + q := IntWalk.i64_in _ (by omega)
      have H1 := Lib.hid h1
      clear hx hs0 h1
      go_wp2_with fail
      go_quiet (fail)
      go_wp2_with fail
      go_roundw
      case rel => exact ⟨k + 1, by omega, by go_num, by rw [H1.out], Lib.hid (bthen HB.out (drewN_below _ _))⟩
      case measure => simp [intOf] <;> omega
    · obtain rfl : k = len := by omega
      have hki : ¬ (k : Int) < (k : Int) := by omega
      have HF := Lib.hid (show sqL (xs.take k) = sqL xs by rw [List.take_of_length_le (by omega)])
      go_wp2_with fail
      go_ret
      exact ⟨by rw [HF.out]; rfl, HB.out⟩
theorem before_any (a a' : Option Addr) (len cap cap' : Nat) (xs ys : List Int) (w : World) (hx : IsInts w a len xs) (hy : IsInts w a' len ys) (hl : len ≤ 1000) :
    Calls Try.prog 90 #[.slice a len cap, .slice a' len cap'] w fun e w' => e = .returned (.bool (lxB xs ys)) ∧ Below w.heap.size w w' := by
  have HX := Lib.hid hx
  have HY := Lib.hid hy
  have hxl := hx.length
  have hyl := hy.length
  clear hx hy
  go_enter Try.func90, Try.ntmps90
  go_wp2
  go_loopw [5] (fun i wr => ∃ k : Nat, k ≤ len ∧ i = .int .i64 (k : Nat) ∧ Hid (Below w.heap.size w wr) ∧ Hid (∀ j, j < k → xs.getD j 0 = ys.getD j 0)) (fun i _ => len - (intOf i).toNat)
  case atStart => exact ⟨0, Nat.zero_le _, rfl, Lib.hid (Below.refl _ _), Lib.hid (fun j hj => absurd hj (Nat.not_lt_zero j))⟩
  case round =>
    obtain ⟨k, hk, rfl, HB, HZ⟩ := hrel
    by_cases hlt : k < len
    · have hki : (k : Int) < (len : Int) := by omega
      have hk0 : (0 : Int) ≤ (k : Int) := by omega
      obtain ⟨b, off, rfl, cc⟩ := (HX.out.below HB.out).at hlt
      obtain ⟨b', off', rfl, dd⟩ := (HY.out.below HB.out).at hlt
      have HA := Lib.hid (fun h => lxB_at (xs := xs) (ys := ys) (k := k) (by omega) (by omega) HZ.out h)
      obtain ⟨x, hx⟩ : ∃ x, xs.getD k 0 = x := ⟨_, rfl⟩
      obtain ⟨y, hy⟩ : ∃ x, ys.getD k 0 = x := ⟨_, rfl⟩
      rw [hx] at cc HA
      rw [hy] at dd HA
      have HE := Lib.hid (And.intro hx hy)
      clear hx hy
      by_cases he : x = y
      · subst he
        have HZ2 := Lib.hid (show ∀ j, j < k + 1 → xs.getD j 0 = ys.getD j 0 from fun j hj => by
          by_cases h : j = k
          · rw [h, HE.out.1, HE.out.2]
          · exact HZ.out j (by omega))
        go_wp2_with fail
        go_quiet (fail)
        go_wp2_with fail
        go_roundw
        case rel => exact ⟨k + 1, by omega, by go_num, Lib.hid (bthen HB.out (drewN_below _ _)), HZ2⟩
        case measure => simp [intOf] <;> omega
      · have HF := Lib.hid (HA.out he)
        have hne : (x != y) = true := by simpa using he
        go_wp2_with fail
        go_quiet (fail)
        go_wp2_with fail
        go_quiet (fail)
        go_wp2
        go_ret
        exact ⟨by rw [HF.out]; rfl, bthen (bthen HB.out (drewN_below _ _)) (drewN_below _ _)⟩
    · obtain rfl : k = len := by omega
      have hki : ¬ (k : Int) < (k : Int) := by omega
      have HF := Lib.hid (show lxB xs ys = false from lxB_same (by omega) (by rw [hxl]; exact HZ.out))
      go_wp2_with fail
      go_ret
      exact ⟨by rw [HF.out]; rfl, HB.out⟩
set_option maxRecDepth 20000 in
set_option maxHeartbeats 800000 in
theorem ownL_any (b off n c : Nat) (xs : List Int) (w : World) (hn : n < 1000000) (hx : IsInts w (some ⟨b, off, none⟩) n xs) :
    Calls Try.prog 54 #[.slice (some ⟨b, off, none⟩) n c] w (RetOwn w xs) := by
  obtain ⟨i0, hi, hz0, hz1, hz2⟩ := info_parts Try.infoI
  have hG := GrowAt.start w 2
  have hnews : ∀ j u, (xs.map (Value.int .i64))[j]? = some u → (w.alloc (.cells #[] 2)).cell? ((⟨b, off, none⟩ : Addr).add j) = some u := by
    intro j u hu
    have hj : j < n := by
      have := (List.getElem?_eq_some_iff.1 hu).1
      rw [List.length_map, hx.1] at this
      exact this
    have hxa := hx.below ((Below.refl _ w).alloc (Nat.le_refl _) (.cells #[] 2))
    obtain ⟨b', f', e, hc⟩ := hxa.at hj
    simp only [Option.some.injEq, Addr.mk.injEq] at e
    obtain ⟨rfl, rfl, _⟩ := e
    have hplain : (⟨b, off, none⟩ : Addr).add j = ⟨b, off + j, none⟩ := by unfold Addr.add; split <;> simp_all
    rw [hplain, hc, ← hu]
    simp [List.getD, List.getElem?_eq_getElem (show j < xs.length by rw [hx.1]; exact hj)]
  have hl : (xs.map (Value.int .i64)).length = n * 1 := by rw [List.length_map, hx.1]; omega
  have h1 : ∀ u ∈ xs.map (Value.int .i64), u.oneCell' = true := by
    intro u hu
    obtain ⟨d, _, rfl⟩ := List.mem_map.1 hu
    rfl
  have hxl := hx.length
  obtain ⟨us, hus⟩ : ∃ us, xs.map (Value.int .i64) = us := ⟨_, rfl⟩
  rw [hus] at hnews hl h1
  have HD := Lib.hid (And.intro hG (And.intro hnews (And.intro hl (And.intro h1 hus))))
  clear hG hnews hl h1 hus hx
  go_enter Try.func54, Try.ntmps54
  go_wp2_with (at_builtin; refine wpList_append_own _ rfl (.tmp 3) (.tmp 4) 24 rfl w.heap.size 2 i0 (.int .i64 0) 1 8 Try.underlying24 hi hz0 hz1 hz2 rfl (by decide) _ 0 [] rfl HD.out.1.1 ⟨b, off, none⟩ n c us rfl HD.out.2.2.1 HD.out.2.1 HD.out.2.2.2.1 ?c1 ?c2 ?c3 ?_)
  case c1 => unfold maxLen; omega
  case c2 => omega
  case c3 => exact HD.out.1.2.size
  intro v' w1 hown hgrow _
  have hb1 := below_grown HD.out.1.2 HD.out.1.1 hgrow HD.out.1.2.size
  rw [← HD.out.2.2.2.2] at hown
  obtain ⟨a, c', rfl⟩ := own_form hown
  have H := Lib.hid (show GrowAt w w1 2 (.slice a n c') xs.length (xs.map (Value.int .i64)) by
    rw [hxl]
    exact ⟨hown, hb1⟩)
  clear hown hgrow hb1
  go_wp2
  go_ret
  exact ⟨_, rfl, H.out⟩
end Go.Proofs.Ytpineiocjaajnaa

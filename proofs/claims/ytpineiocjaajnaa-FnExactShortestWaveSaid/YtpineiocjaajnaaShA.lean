import Derived.Test.YtpineiocjaajnaaVecR
import Derived.Test.YtpineiocjaajnaaOne
import Derived.Test.YtpineiocjaajnaaOwnX
import Derived.Test.YtpineiocjaajnaaChoo
import Derived.Test.YtpineiocjaajnaaLawOf
import Derived.Deep.LoopGhost
/- Lists of few small numbers: remainders, squares, order, copies; program and reference. Conditions: few and small numbers. -/
namespace Go.Proofs.Ytpineiocjaajnaa
open Go.RowKit
set_option linter.unusedVariables false

/-- Few and small numbers. -/
def SmL (xs : List Int) : Prop := xs.length ≤ 4 ∧ ∀ j, -1000000 ≤ xs.getD j 0 ∧ xs.getD j 0 ≤ 1000000
theorem sq_small {x : Int} (h : -1000000 ≤ x ∧ x ≤ 1000000) : 0 ≤ x * x ∧ x * x ≤ 1000000000000 := by
  have h1 := sq_nn x
  have h2 := sq_le (x := x) (y := 1000000) (by omega)
  omega
theorem sqL_take {xs : List Int} {k : Nat} (h : k < xs.length) : sqL (xs.take (k + 1)) = sqL (xs.take k) + xs.getD k 0 * xs.getD k 0 := by
  rw [take_snoc _ _ h, sqL_push]
theorem sqL_bd {xs : List Int} (hs : SmL xs) : ∀ k, k ≤ xs.length → sqL (xs.take k) ≤ 1000000000000 * (k : Int)
  | 0, _ => by simp [sqL]
  | k + 1, h => by
    have h1 := sqL_bd hs k (by omega)
    have h2 := sq_small (hs.2 k)
    rw [sqL_take (by omega)]
    omega
theorem floorMod_any (n m : Int) (w : World) (hm : 0 < m) (hm2 : m ≤ 1000000) : Calls Try.prog 61 #[.int .i64 n, .int .i64 m] w fun e w' => e = .returned (.int .i64 (n % m)) ∧ w' = w := by
  have m0 : ¬ m = 0 := by omega
  have m1 : ¬ m = -1 := by omega
  have mb : (m == 0) = false := by simpa using m0
  obtain ⟨r, hr⟩ : ∃ r, n.tmod m = r := ⟨_, rfl⟩
  have hrb : -m < r ∧ r < m := by
    rw [← hr]
    exact ⟨Int.lt_tmod_of_pos n hm, Int.tmod_lt_of_pos n hm⟩
  have hw : IntKind.i64.wrap (r + m) = r + m := IntWalk.i64_in _ (by omega)
  have hr2 : (r + m).tmod m = n % m := by
    rw [Int.tmod_eq_emod_of_nonneg (by omega), Int.add_emod_right, ← hr]
    have h1 := Int.tmod_add_mul_tdiv n m
    have h2 : n.tmod m = n - m * n.tdiv m := by omega
    rw [h2, Int.sub_mul_emod_self_left]
  have hb := Int.emod_nonneg n m0
  have hb2 := Int.emod_lt_of_pos n hm
  obtain ⟨s, hs⟩ : ∃ s, n % m = s := ⟨_, rfl⟩
  rw [hs] at hr2 hb hb2 ⊢
  have hsw : IntKind.i64.wrap s = s := IntWalk.i64_in _ (by omega)
  have hrw : IntKind.i64.wrap r = r := IntWalk.i64_in _ (by omega)
  clear hs
  go_enter Try.func61, Try.ntmps61
  go_wp2
  go_ret
  exact ⟨rfl, rfl⟩
theorem notZero_any (x : Int) (w : World) : Calls Try.prog 58 #[.int .i64 x] w fun e w' => e = .returned (.bool (x != 0)) ∧ w' = w := by
  go_enter Try.func58, Try.ntmps58
  go_wp2
  go_ret
  exact ⟨rfl, rfl⟩
/-- The first number that is not 0. -/
inductive FirstNZ (xs : List Int) : Int → Prop
  | none (h : ∀ j, j < xs.length → xs.getD j 0 = 0) : FirstNZ xs (-1)
  | some (i : Nat) (hi : i < xs.length) (h0 : xs.getD i 0 ≠ 0) (h : ∀ j, j < i → xs.getD j 0 = 0) : FirstNZ xs (i : Int)
theorem posL_none {xs : List Int} (h : ∀ j, j < xs.length → xs.getD j 0 = 0) : posL xs = false := by
  induction xs with
  | nil => rfl
  | cons x l ih =>
    have h0 := h 0 (by simp)
    simp at h0
    subst h0
    simp only [posL, if_pos]
    exact ih (fun j hj => by have := h (j + 1) (by simpa using hj); simpa using this)
theorem posL_some {xs : List Int} {i : Nat} (hi : i < xs.length) (h0 : xs.getD i 0 ≠ 0) (h : ∀ j, j < i → xs.getD j 0 = 0) : posL xs = decide (0 < xs.getD i 0) := by
  induction xs generalizing i with
  | nil => simp at hi
  | cons x l ih =>
    cases i with
    | zero =>
      simp at h0
      simp [posL, h0]
    | succ i =>
      have hx := h 0 (by omega)
      simp at hx
      subst hx
      simp only [posL, if_pos]
      have := ih (i := i) (by simpa using hi) (by simpa using h0) (fun j hj => by have := h (j + 1) (by omega); simpa using this)
      rw [this]; simp
theorem indexNZ_any (a : Option Addr) (len cap : Nat) (xs : List Int) (w : World) (hx : IsInts w a len xs) (hl : len ≤ 1000) :
    Calls Try.prog 57 #[.slice a len cap, .func (.func 58) #[] #[]] w fun e w' => ∃ r, e = .returned (.int .i64 r) ∧ FirstNZ xs r ∧ w' = w := by
  have HX := Lib.hid hx
  have hxl := hx.length
  have hf : ∀ args w, Sem.run Try.prog (callFunc 58 args) w = .ok (.enter 58 args) w := by intro args w; kernel_rfl
  clear hx
  go_enter Try.func57, Try.ntmps57
  go_wp2
  go_loopw [8] (fun i wr => ∃ k : Nat, k ≤ len ∧ i = .int .i64 (k : Nat) ∧ wr = w ∧ Hid (∀ j, j < k → xs.getD j 0 = 0)) (fun i _ => len - (intOf i).toNat)
  case atStart => exact ⟨0, Nat.zero_le _, rfl, rfl, Lib.hid (fun j hj => absurd hj (Nat.not_lt_zero j))⟩
  case round =>
    obtain ⟨k, hk, rfl, rfl, HZ⟩ := hrel
    by_cases hlt : k < len
    · have hki : (k : Int) < (len : Int) := by omega
      have hk0 : (0 : Int) ≤ (k : Int) := by omega
      obtain ⟨b, off, rfl, cc⟩ := HX.out.at hlt
      obtain ⟨x, hx⟩ : ∃ x, xs.getD k 0 = x := ⟨_, rfl⟩
      rw [hx] at cc
      have HE := Lib.hid hx
      clear hx
      go_wp2_with fail
      try rw [hf, Oper.upon_enter]
      refine (notZero_any x _).mono ?_
      rintro e w' ⟨rfl, rfl⟩
      by_cases h0 : x = 0
      · subst h0
        have HZ2 := Lib.hid (show ∀ j, j < k + 1 → xs.getD j 0 = 0 from fun j hj => by
          by_cases h : j = k
          · rw [h]; exact HE.out
          · exact HZ.out j (by omega))
        go_wp2_with fail
        go_roundw
        case rel => exact ⟨k + 1, by omega, by go_num, trivial, HZ2⟩
        case measure => simp [intOf] <;> omega
      · have hb : (x != 0) = true := by simpa using h0
        rw [hb]
        have HF := Lib.hid (FirstNZ.some k (by omega) (by rw [HE.out]; exact h0) HZ.out)
        clear h0 hb
        go_wp2_with fail
        go_ret
        exact ⟨_, rfl, HF.out, rfl⟩
    · obtain rfl : k = len := by omega
      have hki : ¬ (k : Int) < (k : Int) := by omega
      have HF := Lib.hid (FirstNZ.none (xs := xs) (by rw [hxl]; exact HZ.out))
      go_wp2_with fail
      go_ret
      exact ⟨_, rfl, HF.out, rfl⟩
theorem cmpInt_any (x y : Int) (w : World) : Calls Try.prog 91 #[.int .i64 x, .int .i64 y] w fun e w' => e = .returned (.int .i64 (if x < y then -1 else if y < x then 1 else 0)) ∧ w' = w := by
  have HN : ∀ (z : Int) w, Calls Try.prog 100 #[.int .i64 z] w fun e w' => e = .returned (.bool false) ∧ w' = w := by
    intro z w
    go_enter Try.func100, Try.ntmps100
    go_wp2
    go_ret
    exact ⟨by simp, rfl⟩
  rcases Int.lt_trichotomy x y with h | h | h
  · go_enter Try.func91, Try.ntmps91
    go_wp2_with fail
    refine (HN _ _).mono ?_
    rintro e w' ⟨rfl, rfl⟩
    go_wp2_with fail
    refine (HN _ _).mono ?_
    rintro e w' ⟨rfl, rfl⟩
    go_wp2_with fail
    go_ret
    exact ⟨rfl, rfl⟩
  · have h1 : ¬ x < y := by omega
    have h2 : ¬ y < x := by omega
    go_enter Try.func91, Try.ntmps91
    go_wp2_with fail
    refine (HN _ _).mono ?_
    rintro e w' ⟨rfl, rfl⟩
    go_wp2_with fail
    refine (HN _ _).mono ?_
    rintro e w' ⟨rfl, rfl⟩
    go_wp2_with fail
    go_ret
    exact ⟨rfl, rfl⟩
  · have h1 : ¬ x < y := by omega
    go_enter Try.func91, Try.ntmps91
    go_wp2_with fail
    refine (HN _ _).mono ?_
    rintro e w' ⟨rfl, rfl⟩
    go_wp2_with fail
    refine (HN _ _).mono ?_
    rintro e w' ⟨rfl, rfl⟩
    go_wp2_with fail
    go_ret
    exact ⟨rfl, rfl⟩
/-- Lists of the same beginning, compared. -/
theorem lxB_at : ∀ {xs ys : List Int} {k : Nat}, k < xs.length → k < ys.length → (∀ j, j < k → xs.getD j 0 = ys.getD j 0) → xs.getD k 0 ≠ ys.getD k 0 → lxB xs ys = decide (xs.getD k 0 < ys.getD k 0)
  | [], _, k, h, _, _, _ => by simp at h
  | _ :: _, [], k, _, h, _, _ => by simp at h
  | x :: xs, y :: ys, 0, _, _, _, hne => by
    simp at hne
    simp [lxB, hne]
  | x :: xs, y :: ys, k + 1, h1, h2, he, hne => by
    have h0 := he 0 (by omega)
    simp at h0
    subst h0
    simp only [lxB, if_pos]
    have := lxB_at (xs := xs) (ys := ys) (k := k) (by simpa using h1) (by simpa using h2) (fun j hj => by have := he (j + 1) (by omega); simpa using this) (by simpa using hne)
    rw [this]; simp
theorem lxB_same : ∀ {xs ys : List Int}, xs.length = ys.length → (∀ j, j < xs.length → xs.getD j 0 = ys.getD j 0) → lxB xs ys = false := fun hl h => by
  rw [ext_getD hl h]; exact lxB_irrefl _
set_option maxRecDepth 20000 in
theorem compareL_any (a a' : Option Addr) (len cap cap' : Nat) (xs ys : List Int) (w : World) (hx : IsInts w a len xs) (hy : IsInts w a' len ys) (hl : len ≤ 1000) :
    Calls Try.prog 59 #[.slice a len cap, .slice a' len cap'] w fun e w' => ∃ r, e = .returned (.int .i64 r) ∧ (decide (r < 0) = lxB xs ys) ∧ w' = w := by
  have HX := Lib.hid hx
  have HY := Lib.hid hy
  have hxl := hx.length
  have hyl := hy.length
  clear hx hy
  go_enter Try.func59, Try.ntmps59
  go_wp2
  go_loopw [11] (fun i wr => ∃ k : Nat, k ≤ len ∧ i = .int .i64 (k : Nat) ∧ wr = w ∧ Hid (∀ j, j < k → xs.getD j 0 = ys.getD j 0)) (fun i _ => len - (intOf i).toNat)
  case atStart => exact ⟨0, Nat.zero_le _, rfl, rfl, Lib.hid (fun j hj => absurd hj (Nat.not_lt_zero j))⟩
  case round =>
    obtain ⟨k, hk, rfl, rfl, HZ⟩ := hrel
    by_cases hlt : k < len
    · have hki : (k : Int) < (len : Int) := by omega
      have hki2 : ¬ (len : Int) ≤ (k : Int) := by omega
      have hk0 : (0 : Int) ≤ (k : Int) := by omega
      obtain ⟨b, off, rfl, cc⟩ := HX.out.at hlt
      obtain ⟨b', off', rfl, dd⟩ := HY.out.at hlt
      have HA := Lib.hid (fun h => lxB_at (xs := xs) (ys := ys) (k := k) (by omega) (by omega) HZ.out h)
      obtain ⟨x, hx⟩ : ∃ x, xs.getD k 0 = x := ⟨_, rfl⟩
      obtain ⟨y, hy⟩ : ∃ x, ys.getD k 0 = x := ⟨_, rfl⟩
      rw [hx] at cc HA
      rw [hy] at dd HA
      have HE := Lib.hid (And.intro hx hy)
      clear hx hy
      go_wp2_with fail
      refine (cmpInt_any x y _).mono ?_
      rintro e w' ⟨rfl, rfl⟩
      rcases Int.lt_trichotomy x y with h | h | h
      · rw [if_pos h]
        have HF := Lib.hid (show decide ((-1 : Int) < 0) = lxB xs ys by rw [HA.out (by omega), decide_eq_true h]; rfl)
        clear h
        go_wp2_with fail
        go_ret
        exact ⟨_, rfl, HF.out, rfl⟩
      · subst h
        rw [if_neg (by omega), if_neg (by omega)]
        have HZ2 := Lib.hid (show ∀ j, j < k + 1 → xs.getD j 0 = ys.getD j 0 from fun j hj => by
          by_cases h : j = k
          · rw [h, HE.out.1, HE.out.2]
          · exact HZ.out j (by omega))
        go_wp2_with fail
        go_roundw
        case rel => exact ⟨k + 1, by omega, by go_num, trivial, HZ2⟩
        case measure => simp [intOf] <;> omega
      · rw [if_neg (by omega), if_pos h]
        have HF := Lib.hid (show decide ((1 : Int) < 0) = lxB xs ys by rw [HA.out (by omega), decide_eq_false (show ¬ x < y by omega)]; rfl)
        clear h
        go_wp2_with fail
        go_ret
        exact ⟨_, rfl, HF.out, rfl⟩
    · obtain rfl : k = len := by omega
      have hki : ¬ (k : Int) < (k : Int) := by omega
      have HF := Lib.hid (show decide ((0 : Int) < 0) = lxB xs ys by rw [lxB_same (by omega) (by rw [hxl]; exact HZ.out)]; rfl)
      go_wp2_with fail
      go_ret
      exact ⟨_, rfl, HF.out, rfl⟩
/-- A call's answer: a list of the call's own. -/
def RetOwn (w : World) (xs : List Int) (e : Ending) (w' : World) : Prop := ∃ v, e = .returned v ∧ GrowAt w w' 2 v xs.length (xs.map (Value.int .i64))
set_option maxRecDepth 20000 in
set_option maxHeartbeats 800000 in
theorem cloneL_any (b off n c : Nat) (xs : List Int) (w : World) (hn : n < 1000000) (hx : IsInts w (some ⟨b, off, none⟩) n xs) :
    Calls Try.prog 60 #[.slice (some ⟨b, off, none⟩) n c] w (RetOwn w xs) := by
  obtain ⟨i0, hi, hz0, hz1, hz2⟩ := info_parts Try.infoI
  have hG := GrowAt.start w 2
  have hnews : ∀ j u, (xs.map (Value.int .i64))[j]? = some u → (w.alloc (.cells #[] 2)).cell? ((⟨b, off, none⟩ : Addr).add j) = some u := by
    intro j u hu
    have hj : j < n := by
      have := (List.getElem?_eq_some_iff.1 hu).1
      rw [List.length_map, hx.1] at this
      exact this
    have hxa := hx.below ((Below.refl _ w).alloc (Nat.le_refl _) (.cells #[] 2))
    obtain ⟨b', f', e, hc⟩ := hxa.at hj
    simp only [Option.some.injEq, Addr.mk.injEq] at e
    obtain ⟨rfl, rfl, _⟩ := e
    have hplain : (⟨b, off, none⟩ : Addr).add j = ⟨b, off + j, none⟩ := by unfold Addr.add; split <;> simp_all
    rw [hplain, hc, ← hu]
    simp [List.getD, List.getElem?_eq_getElem (show j < xs.length by rw [hx.1]; exact hj)]
  have hl : (xs.map (Value.int .i64)).length = n * 1 := by rw [List.length_map, hx.1]; omega
  have h1 : ∀ u ∈ xs.map (Value.int .i64), u.oneCell' = true := by
    intro u hu
    obtain ⟨d, _, rfl⟩ := List.mem_map.1 hu
    rfl
  have hxl := hx.length
  obtain ⟨us, hus⟩ : ∃ us, xs.map (Value.int .i64) = us := ⟨_, rfl⟩
  rw [hus] at hnews hl h1
  have HD := Lib.hid (And.intro hG (And.intro hnews (And.intro hl (And.intro h1 hus))))
  clear hG hnews hl h1 hus hx
  have heq := Lib.run_eql_slice_nil (P := Try.prog) w 24 2 (some ⟨b, off, none⟩) n c 0 0 Try.underlying24
  go_enter Try.func60, Try.ntmps60
  go_wp2_with (at_builtin; refine wpList_append_own _ rfl (.tmp 5) (.tmp 6) 24 rfl w.heap.size 2 i0 (.int .i64 0) 1 8 Try.underlying24 hi hz0 hz1 hz2 rfl (by decide) _ 0 [] rfl HD.out.1.1 ⟨b, off, none⟩ n c us rfl HD.out.2.2.1 HD.out.2.1 HD.out.2.2.2.1 ?c1 ?c2 ?c3 ?_)
  case c1 => unfold maxLen; omega
  case c2 => omega
  case c3 => exact HD.out.1.2.size
  intro v' w1 hown hgrow _
  have hb1 := below_grown HD.out.1.2 HD.out.1.1 hgrow HD.out.1.2.size
  rw [← HD.out.2.2.2.2] at hown
  obtain ⟨a, c', rfl⟩ := own_form hown
  have H := Lib.hid (show GrowAt w w1 2 (.slice a n c') xs.length (xs.map (Value.int .i64)) by
    rw [hxl]
    exact ⟨hown, hb1⟩)
  clear hown hgrow hb1
  go_wp2
  go_ret
  exact ⟨_, rfl, H.out⟩
end Go.Proofs.Ytpineiocjaajnaa

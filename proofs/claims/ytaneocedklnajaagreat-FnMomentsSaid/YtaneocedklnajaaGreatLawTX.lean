import Derived.Test.YtaneocedklnajaaGreatLawAX
/- Searching in a list that grows, by halves. No condition but that the list grows. -/
namespace Go.Proofs.YtaneocedklnajaaGreat
open Go.RowKit
set_option linter.unusedVariables false

theorem cmpNaN_any (x : Int) (w : World) : Calls Tryz.prog 147 #[.int .i64 x] w fun e w' => e = .returned (.bool false) ∧ w = w' := by
  go_enter Tryz.func147, Tryz.ntmps147
  go_wp2
  go_ret
  exact ⟨rfl, rfl⟩
theorem slNaN_any (x : Int) (w : World) : Calls Tryz.prog 125 #[.int .i64 x] w fun e w' => e = .returned (.bool false) ∧ w = w' := by
  go_enter Tryz.func125, Tryz.ntmps125
  go_wp2
  go_ret
  exact ⟨rfl, rfl⟩
theorem cmpLess_any (x y : Int) (w : World) : Calls Tryz.prog 116 #[.int .i64 x, .int .i64 y] w fun e w' => e = .returned (.bool (decide (x < y))) ∧ w = w' := by
  go_enter Tryz.func116, Tryz.ntmps116
  go_wp2_with fail
  refine (cmpNaN_any _ _).mono ?_
  rintro e w' ⟨rfl, rfl⟩
  go_wp2
  go_ret
  exact ⟨rfl, rfl⟩
/-- Where a number stands in a list, if it does. -/
def BsR (vs : List Int) (n : Nat) (t : Int) (w : World) (e : Ending) (w' : World) : Prop := w = w' ∧ ∃ (i : Nat) (f : Bool), e = .returned (.tuple #[.int .i64 (i : Nat), .bool f]) ∧ (f = true → i < n ∧ vs.getD i 0 = t) ∧ (f = false → ∀ k, k < n → vs.getD k 0 ≠ t)
set_option maxHeartbeats 1600000 in
theorem bsearch_any (a : Option Addr) (n cap : Nat) (vs : List Int) (t : Int) (w : World) (hb : n ≤ 1048576) (hx : IsInts w a n vs) (hm : ∀ j k, j < k → k < n → vs.getD j 0 < vs.getD k 0) :
    Calls Tryz.prog 88 #[.slice a n cap, .int .i64 t] w (BsR vs n t w) := by
  have HM := Lib.hid hm
  have HX := Lib.hid hx
  clear hm hx
  go_enter Tryz.func88, Tryz.ntmps88
  go_wp2
  go_loop [7, 8] (fun u v => ∃ i j : Nat, i ≤ j ∧ j ≤ n ∧ u = .int .i64 (i : Nat) ∧ v = .int .i64 (j : Nat) ∧ Hid ((∀ k, k < i → vs.getD k 0 < t) ∧ ∀ k, j ≤ k → k < n → t ≤ vs.getD k 0)) (fun u v => (intOf v).toNat - (intOf u).toNat)
  case atStart => exact ⟨0, n, Nat.zero_le _, Nat.le_refl _, rfl, rfl, Lib.hid ⟨fun k hk => by omega, fun k h1 h2 => by omega⟩⟩
  case round =>
    obtain ⟨i, j, hij, hj, rfl, rfl, HR⟩ := hrel
    by_cases hlt : i < j
    · have hh1 : i ≤ (i + j) / 2 := by omega
      have hh2 : (i + j) / 2 < j := by omega
      have hi0 : (0:Int) ≤ (i:Int) := by omega
      obtain ⟨b, off, rfl, c1⟩ := HX.out.at (show (i + j) / 2 < n by omega)
      obtain ⟨x, hx⟩ : ∃ x, vs.getD ((i + j) / 2) 0 = x := ⟨_, rfl⟩
      rw [hx] at c1
      have HH := Lib.hid hx
      clear hx
      by_cases hxt : x < t
      · have hd : decide (x < t) = true := decide_eq_true hxt
        go_wp2_with fail
        refine (cmpLess_any x t _).mono ?_
        rintro e w' ⟨rfl, rfl⟩
        go_wp2
        go_round
        case rel => exact ⟨(i + j) / 2 + 1, j, by omega, hj, congrArg (Value.int .i64) (by omega), rfl, Lib.hid ⟨fun k hk => by
          rcases Nat.lt_or_ge k ((i + j) / 2) with h | h
          · have := HM.out k ((i + j) / 2) h (by omega); have := HH.out; omega
          · obtain rfl : k = (i + j) / 2 := by omega
            rw [HH.out]; exact hxt, HR.out.2⟩⟩
        case measure => simp [intOf]; omega
      · have hd : decide (x < t) = false := decide_eq_false hxt
        go_wp2_with fail
        refine (cmpLess_any x t _).mono ?_
        rintro e w' ⟨rfl, rfl⟩
        go_wp2
        go_round
        case rel => exact ⟨i, (i + j) / 2, hh1, by omega, rfl, congrArg (Value.int .i64) (by omega), Lib.hid ⟨HR.out.1, fun k h1 h2 => by
          rcases Nat.lt_or_ge ((i + j) / 2) k with h | h
          · have := HM.out ((i + j) / 2) k h h2; have := HH.out; omega
          · obtain rfl : k = (i + j) / 2 := by omega
            have := HH.out; omega⟩⟩
        case measure => simp [intOf]; omega
    · obtain rfl : i = j := by omega
      by_cases hin : i < n
      · have hi0 : (0:Int) ≤ (i:Int) := by omega
        have hin2 : (i:Int) < (n:Int) := by omega
        obtain ⟨b, off, rfl, c1⟩ := HX.out.at hin
        obtain ⟨x, hx⟩ : ∃ x, vs.getD i 0 = x := ⟨_, rfl⟩
        rw [hx] at c1
        have HH := Lib.hid hx
        clear hx
        by_cases hxt : x = t
        · subst hxt
          go_wp2_with fail
          go_ret2
          exact ⟨rfl, i, true, rfl, fun _ => ⟨hin, HH.out⟩, fun h => by cases h⟩
        · have hd : (x == t) = false := by rw [beq_eq_false_iff_ne]; exact hxt
          go_wp2_with fail
          refine (slNaN_any x _).mono ?_
          rintro e w' ⟨rfl, rfl⟩
          go_wp2
          go_ret2
          exact ⟨rfl, i, false, rfl, (fun h => by cases h), fun _ k hk e => by
            rcases Nat.lt_or_ge k i with h | h
            · have := HR.out.1 k h; omega
            · have := HR.out.2 k h hk
              rcases Nat.lt_or_ge i k with h2 | h2
              · have h3 := HM.out i k h2 hk; have := HR.out.2 i (Nat.le_refl _) hin; omega
              · obtain rfl : k = i := by omega
                exact hxt (HH.out ▸ e)⟩
      · obtain rfl : i = n := by omega
        go_wp2
        go_ret2
        exact ⟨rfl, i, false, rfl, (fun h => by cases h), fun _ k hk e => by have := HR.out.1 k hk; omega⟩
end Go.Proofs.YtaneocedklnajaaGreat
/- The chance of a value: both sides. No condition. -/
namespace Go.Proofs.YtaneocedklnajaaGreat
open Go.RowKit
set_option linter.unusedVariables false

/-- The chance of a value in a law. -/
def chP (vs fs : List Int) (n : Nat) (v : Int) : Int × Int := match (List.range n).find? (fun k => vs.getD k 0 == v) with | some k => (frN fs k, frD fs k) | none => (0, 1)
theorem chP_at {vs fs : List Int} {n : Nat} {v : Int} {k : Nat} (hm : ∀ j k, j < k → k < n → vs.getD j 0 < vs.getD k 0) (hk : k < n) (h : vs.getD k 0 = v) : chP vs fs n v = (frN fs k, frD fs k) := by
  unfold chP
  rw [find_first hk (by simpa using h) (fun j hj => by rw [beq_eq_false_iff_ne]; have := hm j k hj hk; omega)]
theorem chP_first {vs fs : List Int} {n : Nat} {v : Int} {k : Nat} (hk : k < n) (h : vs.getD k 0 = v) (h0 : ∀ j, j < k → (vs.getD j 0 == v) = false) : chP vs fs n v = (frN fs k, frD fs k) := by
  unfold chP
  rw [find_first hk (by simpa using h) h0]
theorem chP_none {vs fs : List Int} {n : Nat} {v : Int} (h : ∀ k, k < n → (vs.getD k 0 == v) = false) : chP vs fs n v = (0, 1) := by
  unfold chP
  rw [find_nothing h]
/-- What both sides answer for the chance of a value. -/
def chV (vs fs : List Int) (n m : Nat) (v : Int) : Value := if lawOk vs fs n m then .tuple #[.agg #[.int .i64 (chP vs fs n v).1, .int .i64 (chP vs fs n v).2], .bool true] else zeroF
set_option maxHeartbeats 1600000 in
theorem chance_any (a1 a2 : Option Addr) (n c1 c2 : Nat) (vs fs : List Int) (v : Int) (w : World) (hn : n ≤ 1048576) (h1 : IsInts w a1 n vs) (h2 : IsInts w a2 (n * 2) fs) (hm : ∀ j k, j < k → k < n → vs.getD j 0 < vs.getD k 0) :
    Calls Tryz.prog 48 #[.agg #[.slice a1 n c1, .slice a2 n c2], .int .i64 v] w fun e w' => e = .returned (.agg #[.int .i64 (chP vs fs n v).1, .int .i64 (chP vs fs n v).2]) ∧ Below w.heap.size w w' := by
  have hA : Below w.heap.size w ((w.alloc (.cells #[.slice a1 n c1, .slice a2 n c2] 29)).alloc (.cells #[.int .i64 0, .int .i64 0] 40)) := ((Below.refl _ w).alloc (Nat.le_refl _) _).alloc (by simp) _
  have hc0 : C2 ((w.alloc (.cells #[.slice a1 n c1, .slice a2 n c2] 29)).alloc (.cells #[.int .i64 0, .int .i64 0] 40)) w.heap.size (.slice a1 n c1) (.slice a2 n c2) := (C2.new w _ _ _).all ((Below.refl _ _).alloc (Nat.le_refl _) _)
  have hc1 : C2 ((w.alloc (.cells #[.slice a1 n c1, .slice a2 n c2] 29)).alloc (.cells #[.int .i64 0, .int .i64 0] 40)) (w.heap.size + 1) (.int .i64 0) (.int .i64 0) := by
    have := C2.new (w.alloc (.cells #[.slice a1 n c1, .slice a2 n c2] 29)) 40 (.int .i64 0) (.int .i64 0)
    rw [alloc_size] at this; exact this
  have H0 := Lib.hid (And.intro hc0 (And.intro hc1 (And.intro (h1.below hA) (And.intro (h2.below hA) hA))))
  have HM := Lib.hid hm
  clear hA hc0 hc1 h1 h2 hm
  go_enter Tryz.func48, Tryz.ntmps48
  go_wp2_with fail
  obtain ⟨wA, hwA⟩ : ∃ w', ((w.alloc (.cells #[.slice a1 n c1, .slice a2 n c2] 29)).alloc (.cells #[.int .i64 0, .int .i64 0] 40)) = w' := ⟨_, rfl⟩
  rw [hwA] at H0 ⊢
  clear hwA
  refine (bsearch_any _ _ _ vs v _ hn H0.out.2.2.1 HM.out).mono ?_
  rintro e w' ⟨rfl, i, f, rfl, hf1, hf2⟩
  obtain ⟨x0, x1, x2, x3, x4⟩ := H0.out.1
  obtain ⟨y0, y1, y2, y3, y4⟩ := H0.out.2.1
  cases f with
  | true =>
    obtain ⟨hi, hv⟩ := hf1 rfl
    have HP := Lib.hid (chP_at (fs := fs) HM.out hi hv)
    obtain ⟨b, off, rfl, d1, d2⟩ := fr_at H0.out.2.2.2.1 hi
    clear hf1 hf2 hv
    have hi0 : (0:Int) ≤ (i:Int) := by omega
    have hin : (i:Int) < (n:Int) := by omega
    go_wp2_with fail
    refine bodyPost_ret (v := .agg #[.int .i64 (frN fs i), .int .i64 (frD fs i)]) (by simp [results, Tryz.results48, go_sem, *]) rfl ⟨by rw [HP.out], ?_⟩
    exact below_two H0.out.2.2.2.2 (by omega) _ _
  | false =>
    have HP := Lib.hid (chP_none (fs := fs) (fun k hk => by rw [beq_eq_false_iff_ne]; exact hf2 rfl k hk))
    clear hf1 hf2
    go_wp2_with fail
    refine bodyPost_ret (v := .agg #[.int .i64 0, .int .i64 1]) (by simp [results, Tryz.results48, go_sem, *]) rfl ⟨by rw [HP.out], ?_⟩
    exact below_two H0.out.2.2.2.2 (by omega) _ _
set_option maxHeartbeats 1600000 in
theorem chanceOf_any (a1 a2 : Option Addr) (n m c1 c2 : Nat) (vs fs : List Int) (v : Int) (w : World) (hn : n ≤ 1048576) (hm : m ≤ 1048576) (h1 : IsInts w a1 n vs) (h2 : IsInts w a2 (m * 2) fs) :
    Calls Tryz.prog 16 #[.agg #[.slice a1 n c1, .slice a2 m c2], .int .i64 v] w fun e w' => e = .returned (chV vs fs n m v) ∧ Below w.heap.size w w' := by
  have hl := h1.1
  have hA : Below w.heap.size w ((w.alloc (.cells #[.slice a1 n c1, .slice a2 m c2] 29)).alloc (.cells #[.int .i64 0, .int .i64 0] 40)) := ((Below.refl _ w).alloc (Nat.le_refl _) _).alloc (by simp) _
  have hc0 : C2 ((w.alloc (.cells #[.slice a1 n c1, .slice a2 m c2] 29)).alloc (.cells #[.int .i64 0, .int .i64 0] 40)) w.heap.size (.slice a1 n c1) (.slice a2 m c2) := (C2.new w _ _ _).all ((Below.refl _ _).alloc (Nat.le_refl _) _)
  have hc1 : C2 ((w.alloc (.cells #[.slice a1 n c1, .slice a2 m c2] 29)).alloc (.cells #[.int .i64 0, .int .i64 0] 40)) (w.heap.size + 1) (.int .i64 0) (.int .i64 0) := by
    have := C2.new (w.alloc (.cells #[.slice a1 n c1, .slice a2 m c2] 29)) 40 (.int .i64 0) (.int .i64 0)
    rw [alloc_size] at this; exact this
  have H0 := Lib.hid (And.intro hc0 (And.intro hc1 (And.intro (h1.below hA) (And.intro (h2.below hA) hA))))
  have HV := Lib.hid (fun w h1 h2 => validLaw_any a1 a2 n m c1 c2 vs fs w hn hm h1 h2)
  clear hA hc0 hc1 h1 h2
  obtain ⟨ok, hok⟩ : ∃ ok, lawOk vs fs n m = ok := ⟨_, rfl⟩
  rw [hok] at HV
  have HQ := Lib.hid hok
  have HL := Lib.hid hl
  clear hok hl
  go_enter Tryz.func16, Tryz.ntmps16
  go_wp2_with fail
  obtain ⟨wA, hwA⟩ : ∃ w', ((w.alloc (.cells #[.slice a1 n c1, .slice a2 m c2] 29)).alloc (.cells #[.int .i64 0, .int .i64 0] 40)) = w' := ⟨_, rfl⟩
  rw [hwA] at H0 ⊢
  clear hwA
  refine (HV.out _ H0.out.2.2.1 H0.out.2.2.2.1).mono ?_
  rintro e w1 ⟨rfl, hb⟩
  have H1 := Lib.hid (And.intro (H0.out.1.all hb) (And.intro (H0.out.2.1.all hb) (And.intro (H0.out.2.2.1.below hb) (And.intro (H0.out.2.2.2.1.below hb) (bthen H0.out.2.2.2.2 hb)))))
  clear hb H0
  obtain ⟨x0, x1, x2, x3, x4⟩ := H1.out.1
  obtain ⟨y0, y1, y2, y3, y4⟩ := H1.out.2.1
  cases ok with
  | false =>
    have HC := Lib.hid (show chV vs fs n m v = zeroF by unfold chV; rw [HQ.out]; rfl)
    go_wp2_with fail
    refine bodyPost_ret (v := .tuple #[.agg #[.int .i64 0, .int .i64 0], .bool false]) (by simp [results, Tryz.results16, go_sem, *]) rfl ⟨by rw [HC.out]; rfl, ?_⟩
    exact below_two H1.out.2.2.2.2 (by omega) _ _
  | true =>
    obtain ⟨rfl, hq⟩ := lawQ_of HL.out HQ.out
    have HC := Lib.hid (show chV vs fs m m v = .tuple #[.agg #[.int .i64 (chP vs fs m v).1, .int .i64 (chP vs fs m v).2], .bool true] by unfold chV; rw [HQ.out]; rfl)
    have HH := Lib.hid (fun w h1 h2 => chance_any a1 a2 m c1 c2 vs fs v w hm h1 h2 hq.mono)
    obtain ⟨p, hp⟩ : ∃ p, (chP vs fs m v).1 = p := ⟨_, rfl⟩
    obtain ⟨q, hq2⟩ : ∃ q, (chP vs fs m v).2 = q := ⟨_, rfl⟩
    rw [hp, hq2] at HH HC
    clear hq hp hq2
    go_wp2_with fail
    refine (HH.out _ H1.out.2.2.1 H1.out.2.2.2.1).mono ?_
    rintro e w2 ⟨rfl, hb⟩
    have H2 := Lib.hid (And.intro (H1.out.2.1.all hb) (bthen H1.out.2.2.2.2 hb))
    clear hb x0 x1 x2 x3 x4 y0 y1 y2 y3 y4
    obtain ⟨y0, y1, y2, y3, y4⟩ := H2.out.1
    go_wp2_with fail
    refine bodyPost_ret (v := .tuple #[.agg #[.int .i64 p, .int .i64 q], .bool true]) (by simp [results, Tryz.results16, go_sem, *]) rfl ⟨by rw [HC.out], ?_⟩
    exact below_two H2.out.2 (by omega) _ _
theorem chV_form (vs fs : List Int) (n m : Nat) (v : Int) : ∃ p q b, chV vs fs n m v = .tuple #[.agg #[.int .i64 p, .int .i64 q], .bool b] := by
  unfold chV zeroF; split <;> exact ⟨_, _, _, rfl⟩
end Go.Proofs.YtaneocedklnajaaGreat

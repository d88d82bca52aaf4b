import Derived.Test.YthjndfbjalkckaaDoorGuP
import Derived.Deep.QuietTactic
import Derived.BigQuiet
/- The states of a congruence: program and reference. Condition: the congruence is valid, the state is one of it, and there are at most 64 steps. -/
namespace Go.Proofs.YthjndfbjalkckaaDoor
open Go.RowKit
set_option linter.unusedVariables false

/-- A valid congruence and a state of it. -/
def GdC (m a c x : Int) : Prop := cgOk m a c = true ∧ 0 ≤ x ∧ x < m
theorem GdC.bd {m a c x : Int} (h : GdC m a c x) : (2 ≤ m ∧ m ≤ 100000) ∧ (0 ≤ a ∧ a ≤ m - 1) ∧ (0 ≤ c ∧ c ≤ m - 1) ∧ 0 ≤ x ∧ x < m := by
  have := cg_bd h.1
  exact ⟨this.1, this.2.1, this.2.2, h.2.1, h.2.2⟩
theorem GdC.step {m a c x : Int} (h : GdC m a c x) (k : Nat) : GdC m a c (stN m a c x k) := ⟨h.1, stN_bd (by have := h.bd; omega) h.2 k⟩
/-- What a step reckons stays small. -/
theorem GdC.mul {m a c x : Int} (h : GdC m a c x) : ∃ p, a * x = p ∧ 0 ≤ p ∧ p ≤ 10000000000 := by
  obtain ⟨h1, h2, h3, h4⟩ := h.bd
  refine ⟨_, rfl, Int.mul_nonneg h2.1 h4.1, ?_⟩
  exact Int.le_trans (Int.mul_le_mul (show a ≤ 100000 by omega) (show x ≤ 100000 by omega) h4.1 (by omega)) (by decide)
theorem stepI_any (m a c x : Int) (w : World) (h : GdC m a c x) : Calls Tryd.prog 40 #[.agg #[.int .i64 m, .int .i64 a, .int .i64 c], .int .i64 x] w fun e w' => e = .returned (.int .i64 (stS m a c x)) ∧ Below w.heap.size w w' := by
  have HB := Lib.hid ((Below.refl _ w).alloc (Nat.le_refl _) (.cells #[.int .i64 m, .int .i64 a, .int .i64 c] 23 (0, 0)))
  obtain ⟨p, hp, hp0, hp1⟩ := h.mul
  obtain ⟨h1, h2, h3, h4⟩ := h.bd
  have hw1 : IntKind.i64.wrap (a * x) = p := by rw [hp]; exact IntWalk.i64_in _ (by omega)
  have hw2 : IntKind.i64.wrap (p + c) = p + c := IntWalk.i64_in _ (by omega)
  have hm0 : ¬ m = 0 := by omega
  have hm1 : ¬ m = -1 := by omega
  have hq : 0 ≤ p + c := by omega
  have HV2 := Lib.hid (show (p + c) % m = stS m a c x by unfold stS; rw [hp])
  clear h hp h1 h2 h3 h4 hp0 hp1
  go_enter Tryd.func40, Tryd.ntmps40
  go_wp2_with fail
  go_ret
  exact ⟨by rw [← HV2.out]; rfl, HB.out⟩
theorem isStateI_any (m a c x : Int) (w : World) (h : GdC m a c x) : Calls Tryd.prog 39 #[.agg #[.int .i64 m, .int .i64 a, .int .i64 c], .int .i64 x] w fun e w' => e = .returned (.bool true) ∧ Below w.heap.size w w' := by
  have H0 := Lib.hid (And.intro (R3.new w 23 m a c) ((Below.refl _ w).alloc (Nat.le_refl _) (.cells #[.int .i64 m, .int .i64 a, .int .i64 c] 23 (0, 0))))
  have hok := h.1
  have hbd := h.bd
  have hw := cg_wrap (m := m) (by simp only [inR, Bool.and_eq_true, decide_eq_true_eq]; omega)
  have HX := Lib.hid (show inR x 0 (m - 1) = true by simp only [inR, Bool.and_eq_true, decide_eq_true_eq]; omega)
  have HK := Lib.hid hok
  clear h hok hbd
  go_enter Tryd.func39, Tryd.ntmps39
  go_wp2_with fail
  obtain ⟨wA, hwA⟩ : ∃ w', w.alloc (.cells #[.int .i64 m, .int .i64 a, .int .i64 c] 23 (0, 0)) = w' := ⟨_, rfl⟩
  rw [hwA] at H0 ⊢
  clear hwA
  refine (validCg_any m a c _).mono ?_
  rintro e w1 ⟨rfl, hb⟩
  have HR := Lib.hid (And.intro (H0.out.1.all hb) (bthen H0.out.2 hb))
  clear hb H0
  rw [HK.out]
  obtain ⟨y0, y1, y2, z0, z1, z2, hlt⟩ := HR.out.1
  go_wp2_with fail
  refine (inRangeV _ _ _ _).mono ?_
  rintro e w2 ⟨rfl, rfl⟩
  rw [HX.out]
  go_wp2_with fail
  go_ret
  exact ⟨rfl, HR.out.2⟩
set_option maxRecDepth 20000 in
set_option maxHeartbeats 1600000 in
theorem statesI_any (m a c x : Int) (n : Nat) (w : World) (h : GdC m a c x) (hn : n ≤ 64) : Calls Tryd.prog 18 #[.agg #[.int .i64 m, .int .i64 a, .int .i64 c], .int .i64 x, .int .i64 (n : Nat)] w (RetN w (some (stR m a c x n))) := by
  have H0 := Lib.hid (And.intro (R3.new w 23 m a c) ((Below.refl _ w).alloc (Nat.le_refl _) (.cells #[.int .i64 m, .int .i64 a, .int .i64 c] 23 (0, 0))))
  have HX := Lib.hid (show inR (n : Int) 0 64 = true by simp only [inR, Bool.and_eq_true, decide_eq_true_eq]; omega)
  have HC := Lib.hid h
  have HS := Lib.hid (fun w => isStateI_any m a c x w h)
  have HSt := Lib.hid (fun k w => stepI_any m a c (stN m a c x k) w (h.step k))
  have HL := Lib.hid (fun k => stR_succ m a c x k)
  have HZ := Lib.hid (stR_len m a c x n)
  have HR0 := Lib.hid (show RetN w (some (stR m a c x n)) = RetN w (some (stR m a c x n)) from rfl)
  clear h
  go_enter Tryd.func18, Tryd.ntmps18
  go_wp2_with fail
  obtain ⟨wA, hwA⟩ : ∃ w', w.alloc (.cells #[.int .i64 m, .int .i64 a, .int .i64 c] 23 (0, 0)) = w' := ⟨_, rfl⟩
  rw [hwA] at H0 ⊢
  clear hwA
  obtain ⟨B0, hB0⟩ : ∃ b, w.heap.size = b := ⟨_, rfl⟩
  rw [hB0] at H0 ⊢
  have HBL := Lib.hid hB0
  clear hB0
  obtain ⟨y0, y1, y2, z0, z1, z2, hlt⟩ := H0.out.1
  refine (HS.out _).mono ?_
  rintro e w1 ⟨rfl, hb⟩
  have HR := Lib.hid (And.intro (H0.out.1.all hb) (bthen (by rw [HBL.out]; exact H0.out.2) hb))
  clear hb H0 y0 y1 y2 z0 z1 z2 hlt
  go_wp2_with fail
  refine (inRangeV _ _ _ _).mono ?_
  rintro e w2 ⟨rfl, rfl⟩
  rw [HX.out]
  have HG0 := Lib.hid (GrowAt.start w2 2)
  go_wp2_with fail
  go_loopw [20, 8, 1] (fun i v s wr => ∃ (k : Nat) (a' : Option Addr) (c' : Nat), k ≤ n ∧ i = .int .i64 (k : Nat) ∧ v = .slice a' k c' ∧ s = .int .i64 (stN m a c x k) ∧ Hid (GrowAt w2 wr 2 (.slice a' k c') k ((stR m a c x k).map (Value.int .i64)))) (fun i _ _ _ => n - (intOf i).toNat)
  case atStart => exact ⟨0, _, _, Nat.zero_le _, rfl, rfl, rfl, HG0⟩
  case round =>
    clear HG0
    obtain ⟨k, a', c', hk, rfl, rfl, rfl, HG⟩ := hrel
    by_cases hlt : k < n
    · have hki : (k : Int) < (n : Int) := by omega
      have hk0 : (0 : Int) ≤ (k : Int) := by omega
      obtain ⟨y0, y1, y2, z0, z1, z2, hlb⟩ := HR.out.1.all HG.out.2
      go_wp2_with fail
      refine (HSt.out k _).mono ?_
      rintro e w3 ⟨rfl, hb⟩
      have HG2 := Lib.hid (HG.out.ret hb)
      have hsz := HG2.out.2.size
      clear hb HG y0 y1 y2 z0 z1 z2 hlb
      have HE := Lib.hid (show stS m a c (stN m a c x k) = stN m a c x (k + 1) from rfl)
      rw [HE.out]
      obtain ⟨y, hy⟩ : ∃ y, stN m a c x (k + 1) = y := ⟨_, rfl⟩
      have HP := Lib.hid (show stR m a c x (k + 1) = stR m a c x k ++ [y] by rw [HL.out, hy])
      have HY := Lib.hid hy
      rw [hy]
      clear hy HE
      have HOW := Lib.hid (HG2.out.alloc (.cells #[.int .i64 y] 2)).1
      go_wp2_with (at_builtin; refine wpList_ap1 rfl (.tmp 25) (.tmp 27) 32 rfl w2.heap.size 2 (.int .i64 0) 8 Tryd.underlying32 Tryd.infoI rfl _ k _ rfl HOW.out _ (.int .i64 y) rfl (by go_simp) rfl (by omega) (by omega) (by simp only [alloc_size]; omega) ?_)
      intro v' w6 hown hgrow _
      obtain ⟨a6, c6, rfl⟩ := own_form hown
      have HG3 := Lib.hid (HG2.out.i64 hown hgrow)
      clear hown hgrow HOW HG2
      go_wp2_with fail
      go_roundw
      case rel => exact ⟨k + 1, a6, c6, by omega, by go_num, rfl, by rw [HY.out], by rw [HP.out]; exact HG3⟩
      case measure => simp [intOf]; omega
    · obtain rfl : k = n := by omega
      have hki : ¬ (k : Int) < (k : Int) := by omega
      go_wp2_with fail
      go_ret2
      exact RetN.some rfl (stR_len m a c x k) (by rw [stR_len]; omega) (IsInts.of_own HG.out.1) (bthen HR.out.2 HG.out.2)
/-- A list of numbers that a call answers. -/
def RetL (w : World) (n : Nat) (zs : List Int) (e : Ending) (w' : World) : Prop := ∃ a' c', e = .returned (.slice a' n c') ∧ IsInts w' a' n zs ∧ Below w.heap.size w w'
theorem own_cap {w : World} {B E : Nat} {a : Option Addr} {n c : Nat} {xs : List Value} (h : w.ownsRow B E 1 (.slice a n c) n xs) : n ≤ c := by
  rcases h.2 with ⟨e, h0⟩ | ⟨g, c', cur, e, _, _, h3, _⟩
  · omega
  · simp only [Value.slice.injEq] at e
    obtain ⟨_, _, rfl⟩ := e
    exact h3
def RetLc (w : World) (n : Nat) (zs : List Int) (e : Ending) (w' : World) : Prop := ∃ a' c', e = .returned (.slice a' n c') ∧ IsInts w' a' n zs ∧ Below w.heap.size w w' ∧ n ≤ c'
def RetNc (w : World) (n : Nat) (zs : List Int) (e : Ending) (w' : World) : Prop := ∃ a' c', e = .returned (.tuple #[.slice a' n c', .bool true]) ∧ IsInts w' a' n zs ∧ Below w.heap.size w w' ∧ n ≤ c'
theorem l03Step_any (m a c x : Int) (b : Nat) (w : World) (h : GdC m a c x) (hg : G3 w b m a c) : Calls Tryd.prog 48 #[.pointer (some ⟨b, 0, none⟩), .int .i64 x] w fun e w' => e = .returned (.int .i64 (stS m a c x)) ∧ Below w.heap.size w w' := by
  obtain ⟨y0, y1, y2, hlt⟩ := hg
  obtain ⟨p, hp, hp0, hp1⟩ := h.mul
  obtain ⟨h1, h2, h3, h4⟩ := h.bd
  have hw1 : IntKind.i64.wrap (a * x) = p := by rw [hp]; exact IntWalk.i64_in _ (by omega)
  have hw2 : IntKind.i64.wrap (p + c) = p + c := IntWalk.i64_in _ (by omega)
  have hm0 : ¬ m = 0 := by omega
  have hm1 : ¬ m = -1 := by omega
  have hq : 0 ≤ p + c := by omega
  have HV2 := Lib.hid (show (p + c) % m = stS m a c x by unfold stS; rw [hp])
  clear h hp h1 h2 h3 h4 hp0 hp1
  go_enter Tryd.func48, Tryd.ntmps48
  go_wp2_with fail
  go_quiet (fail)
  go_wp2_with fail
  go_ret
  exact ⟨by rw [← HV2.out]; rfl, drewN_below _ _⟩
theorem l03Both_any (m a c x : Int) (b : Nat) (w : World) (h : GdC m a c x) (hg : G3 w b m a c) : Calls Tryd.prog 26 #[.pointer (some ⟨b, 0, none⟩), .int .i64 x] w fun e w' => e = .returned (.bool true) ∧ Below w.heap.size w w' := by
  have hok := h.1
  have hbd := h.bd
  have hw := cg_wrap (m := m) (by simp only [inR, Bool.and_eq_true, decide_eq_true_eq]; omega)
  have HX := Lib.hid (show inR x 0 (m - 1) = true by simp only [inR, Bool.and_eq_true, decide_eq_true_eq]; omega)
  have HK := Lib.hid hok
  have HG := Lib.hid hg
  have HI := Lib.hid (l03Is_any m a c b w hg)
  clear h hok hbd hg
  go_enter Tryd.func26, Tryd.ntmps26
  go_wp2_with fail
  refine HI.out.mono ?_
  rintro e w1 ⟨rfl, hb⟩
  have HR := Lib.hid (And.intro (HG.out.all hb) hb)
  clear hb HI
  rw [HK.out]
  obtain ⟨y0, y1, y2, hlt⟩ := HR.out.1
  go_wp2_with fail
  refine (l00InV _ _ _ _).mono ?_
  rintro e w2 ⟨rfl, rfl⟩
  rw [HX.out]
  go_wp2_with fail
  go_ret
  exact ⟨rfl, HR.out.2⟩
set_option maxRecDepth 20000 in
set_option maxHeartbeats 1600000 in
theorem l03States_any (m a c x : Int) (n b : Nat) (w : World) (h : GdC m a c x) (hn : n ≤ 64) (hg : G3 w b m a c) : Calls Tryd.prog 28 #[.pointer (some ⟨b, 0, none⟩), .int .i64 x, .int .i64 (n : Nat)] w (RetLc w n (stR m a c x n)) := by
  have HGG := Lib.hid hg
  have HSt := Lib.hid (fun k w hg => l03Step_any m a c (stN m a c x k) b w (h.step k) hg)
  have HL := Lib.hid (fun k => stR_succ m a c x k)
  have HG0 := Lib.hid (GrowAt.start w 2)
  clear h hg
  go_enter Tryd.func28, Tryd.ntmps28
  go_wp2_with fail
  go_loopw [2, 7, 1] (fun i v s wr => ∃ (k r : Nat) (a' : Option Addr) (c' : Nat), Hid (k + r = n) ∧ r ≤ n ∧ i = .int .i64 (r : Nat) ∧ v = .slice a' k c' ∧ s = .int .i64 (stN m a c x k) ∧ Hid (GrowAt w wr 2 (.slice a' k c') k ((stR m a c x k).map (Value.int .i64)))) (fun i _ _ _ => (intOf i).toNat)
  case atStart => exact ⟨0, n, _, _, Lib.hid (by omega), Nat.le_refl _, rfl, rfl, rfl, HG0⟩
  case round =>
    clear HG0
    obtain ⟨k, r, a', c', HK, hr, rfl, rfl, rfl, HG⟩ := hrel
    have hkn : k ≤ 64 := by have := HK.out; omega
    by_cases hlt : 0 < r
    · have hki : (0 : Int) < (r : Int) := by omega
      go_wp2_with fail
      refine (HSt.out k _ (HGG.out.all HG.out.2)).mono ?_
      rintro e w3 ⟨rfl, hb⟩
      have HG2 := Lib.hid (HG.out.ret hb)
      have hsz := HG2.out.2.size
      clear hb HG
      have HE := Lib.hid (show stS m a c (stN m a c x k) = stN m a c x (k + 1) from rfl)
      rw [HE.out]
      obtain ⟨y, hy⟩ : ∃ y, stN m a c x (k + 1) = y := ⟨_, rfl⟩
      have HP := Lib.hid (show stR m a c x (k + 1) = stR m a c x k ++ [y] by rw [HL.out, hy])
      have HY := Lib.hid hy
      rw [hy]
      clear hy HE
      have HOW := Lib.hid (HG2.out.alloc (.cells #[.int .i64 y] 2)).1
      go_wp2_with (at_builtin; refine wpList_ap1 rfl (.tmp 16) (.tmp 18) 32 rfl w.heap.size 2 (.int .i64 0) 8 Tryd.underlying32 Tryd.infoI rfl _ k _ rfl HOW.out _ (.int .i64 y) rfl (by go_simp) rfl (by omega) (by omega) (by simp only [alloc_size]; omega) ?_)
      intro v' w6 hown hgrow _
      obtain ⟨a6, c6, rfl⟩ := own_form hown
      have HG3 := Lib.hid (HG2.out.i64 hown hgrow)
      clear hown hgrow HOW HG2
      obtain ⟨q, hq⟩ : ∃ q, r = q + 1 := ⟨r - 1, by omega⟩
      subst hq
      have hq1 : (((q + 1 : Nat) : Nat) : Int) = (q : Int) + 1 := by omega
      have hq2 : IntKind.i64.wrap ((q : Int) + 1 - 1) = (q : Int) := by rw [Int.add_sub_cancel]; exact IntWalk.i64_in _ (by omega)
      have hq3 : IntKind.i64.wrap (q : Int) = (q : Int) := IntWalk.i64_in _ (by omega)
      go_wp2_with fail
      go_roundw
      case rel => exact ⟨k + 1, q, a6, c6, Lib.hid (by have := HK.out; omega), by omega, by go_num, rfl, by rw [HY.out], by rw [HP.out]; exact HG3⟩
      case measure => simp [intOf] <;> omega
    · obtain rfl : r = 0 := by omega
      have hki : ¬ (0 : Int) < ((0 : Nat) : Int) := by omega
      obtain rfl : k = n := by have := HK.out; omega
      go_wp2_with fail
      go_ret
      exact ⟨_, _, rfl, IsInts.of_own HG.out.1, HG.out.2, own_cap HG.out.1⟩
set_option maxRecDepth 20000 in
theorem specStates_any (m a c x : Int) (n : Nat) (w : World) (h : GdC m a c x) (hn : n ≤ 64) : Calls Tryd.prog 10 #[.agg #[.int .i64 m, .int .i64 a, .int .i64 c], .int .i64 x, .int .i64 (n : Nat)] w (RetNc w n (stR m a c x n)) := by
  have H0 := Lib.hid (And.intro (G3.new w 23 m a c) ((Below.refl _ w).alloc (Nat.le_refl _) (.cells #[.int .i64 m, .int .i64 a, .int .i64 c] 23 (0, 0))))
  have HX := Lib.hid (show inR (n : Int) 0 64 = true by simp only [inR, Bool.and_eq_true, decide_eq_true_eq]; omega)
  have HS := Lib.hid (fun b w hg => l03Both_any m a c x b w h hg)
  have HL := Lib.hid (fun b w hg => l03States_any m a c x n b w h hn hg)
  clear h
  go_enter Tryd.func10, Tryd.ntmps10
  go_wp2_with fail
  refine (HS.out _ _ H0.out.1).mono ?_
  rintro e w1 ⟨rfl, hb⟩
  have HR := Lib.hid (And.intro (H0.out.1.all hb) (bthen H0.out.2 hb))
  clear hb H0
  go_wp2_with fail
  refine (l00InV _ _ _ _).mono ?_
  rintro e w2 ⟨rfl, rfl⟩
  rw [HX.out]
  go_wp2_with fail
  refine (HL.out _ _ HR.out.1).mono ?_
  rintro e w3 ⟨a', c', rfl, hx, hb, hcap⟩
  have HX3 := Lib.hid (And.intro hx (And.intro (bthen HR.out.2 hb) hcap))
  clear hx hb hcap
  go_wp2_with fail
  go_ret2
  exact ⟨_, _, rfl, HX3.out.1, HX3.out.2.1, HX3.out.2.2⟩
end Go.Proofs.YthjndfbjalkckaaDoor

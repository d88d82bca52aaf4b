import Derived.Test.YthjndfbjalkckaaDoorGuT
import Derived.Test.YthjndfbjalkckaaDoorWts
import Derived.Test.YthjndfbjalkckaaDoorFrac
/- Lists of outputs: whether they are, and their differences. Condition: the list has 4 to 64 numbers below the modulus, which is at most 100000. -/
namespace Go.Proofs.YthjndfbjalkckaaDoor
open Go.RowKit
set_option linter.unusedVariables false

/-- A list of outputs and a modulus. -/
structure GdO (m : Int) (n : Nat) (o : List Int) : Prop where
  n4 : 4 ≤ n
  n64 : n ≤ 64
  len : o.length = n
  m2 : 2 ≤ m
  m5 : m ≤ 100000
  bd : ∀ j, 0 ≤ o.getD j 0 ∧ o.getD j 0 < m
theorem GdO.of_st {m a c x : Int} {n : Nat} (h : GdC m a c x) (h4 : 4 ≤ n) (h64 : n ≤ 64) : GdO m n (stR m a c x n) := by
  obtain ⟨h1, _⟩ := h.bd
  refine ⟨h4, h64, stR_len _ _ _ _ _, h1.1, h1.2, fun j => ?_⟩
  by_cases hj : j < n
  · rw [stR_at hj]; exact stN_bd (by omega) h.2 _
  · simp only [List.getD, List.getElem?_eq_none (by rw [stR_len]; omega : (stR m a c x n).length ≤ j), Option.getD_none]; omega
theorem GdO.df {m : Int} {n : Nat} {o : List Int} (h : GdO m n o) (i : Nat) : -100000 ≤ dfL o i ∧ dfL o i ≤ 100000 := by
  have h1 := h.bd i
  have h2 := h.bd (i + 1)
  have h3 := h.m5
  unfold dfL
  omega
theorem GdO.all {m : Int} {n : Nat} {o : List Int} (h : GdO m n o) {hi : Int} (hh : m - 1 ≤ hi) : allR o 0 hi = true := by
  unfold allR
  rw [List.all_eq_true]
  intro z hz
  obtain ⟨j, hj, rfl⟩ := List.getElem_of_mem hz
  have := h.bd j
  rw [List.getD, List.getElem?_eq_getElem hj, Option.getD_some] at this
  simp only [inR, Bool.and_eq_true, decide_eq_true_eq]
  omega
def dfR (o : List Int) (k : Nat) : List Int := (List.range k).map (dfL o)
theorem dfR_len (o : List Int) (k : Nat) : (dfR o k).length = k := by simp [dfR]
theorem dfR_at {o : List Int} {k i : Nat} (h : i < k) : (dfR o k).getD i 0 = dfL o i := by simp [dfR, List.getD, h]
theorem dfR_succ (o : List Int) (k : Nat) : dfR o (k + 1) = dfR o k ++ [dfL o k] := by simp [dfR, List.range_succ]
theorem isOutputs_any (m : Int) (a : Option Addr) (n cap : Nat) (o : List Int) (w : World) (h : GdO m n o) (hx : IsInts w a n o) : Calls Tryd.prog 30 #[.slice a n cap] w (Ret w (.bool true)) := by
  have HA := Lib.hid (allIn_any a n cap o 0 99999 w (by have := h.n64; omega) hx)
  have HV := Lib.hid (h.all (hi := 99999) (by have := h.m5; omega))
  have HR := Lib.hid (show inR (n : Int) 3 64 = true by have := h.n4; have := h.n64; simp only [inR, Bool.and_eq_true, decide_eq_true_eq]; omega)
  clear h hx
  go_enter Tryd.func30, Tryd.ntmps30
  go_wp2_with fail
  refine (length_any a n cap w).mono ?_
  rintro e w1 ⟨rfl, rfl⟩
  go_wp2_with fail
  refine (inRangeV _ _ _ _).mono ?_
  rintro e w2 ⟨rfl, rfl⟩
  rw [HR.out]
  go_wp2_with fail
  refine HA.out.mono ?_
  rintro e w3 ⟨rfl, hb⟩
  have HB := Lib.hid hb
  clear hb
  rw [HV.out]
  go_wp2_with fail
  go_ret
  exact ⟨rfl, HB.out⟩
set_option maxRecDepth 20000 in
set_option maxHeartbeats 1600000 in
theorem differences_any (m : Int) (a : Option Addr) (n cap : Nat) (o : List Int) (w : World) (h : GdO m n o) (hx : IsInts w a n o) : Calls Tryd.prog 32 #[.slice a n cap] w (RetL w (n - 1) (dfR o (n - 1))) := by
  have HG0 := Lib.hid (GrowAt.start w 2)
  have HX := Lib.hid hx
  have HB := Lib.hid h.bd
  have hn4 := h.n4
  have hn64 := h.n64
  have HM := Lib.hid h.m5
  clear h hx
  go_enter Tryd.func32, Tryd.ntmps32
  go_wp2_with fail
  go_loopw [4, 3] (fun i v wr => ∃ (k : Nat) (a' : Option Addr) (c' : Nat), k + 1 ≤ n ∧ i = .int .i64 ((k : Int) + 1) ∧ v = .slice a' k c' ∧ Hid (GrowAt w wr 2 (.slice a' k c') k ((dfR o k).map (Value.int .i64)))) (fun i _ _ => n - (intOf i).toNat)
  case atStart => exact ⟨0, _, _, by omega, rfl, rfl, HG0⟩
  case round =>
    clear HG0
    obtain ⟨k, a', c', hk, rfl, rfl, HG⟩ := hrel
    by_cases hlt : k + 1 < n
    · have hki : (k : Int) + 1 < (n : Int) := by omega
      have hk1 : (k : Int) < (n : Int) := by omega
      have hk0 : (0 : Int) ≤ (k : Int) := by omega
      have hk2 : (0 : Int) ≤ (k : Int) + 1 := by omega
      have hx := HX.out.below HG.out.2
      obtain ⟨b, off, rfl, c1⟩ := hx.at (show k < n by omega)
      obtain ⟨b1, off1, e1, c2⟩ := hx.at hlt
      simp only [Option.some.injEq, Addr.mk.injEq] at e1
      obtain ⟨rfl, rfl, _⟩ := e1
      have hb1 := HB.out k
      have hb2 := HB.out (k + 1)
      have hm := HM.out
      have HS := Lib.hid (show dfR o (k + 1) = dfR o k ++ [o.getD (k + 1) 0 - o.getD k 0] from dfR_succ o k)
      obtain ⟨x, hxx⟩ : ∃ x, o.getD k 0 = x := ⟨_, rfl⟩
      obtain ⟨y, hyy⟩ : ∃ y, o.getD (k + 1) 0 = y := ⟨_, rfl⟩
      rw [hxx] at c1 HS hb1
      rw [hyy] at c2 HS hb2
      have hww : IntKind.i64.wrap (y - x) = y - x := IntWalk.i64_in _ (by omega)
      have hwj : IntKind.i64.wrap (k : Int) = (k : Int) := IntWalk.i64_in _ (by omega)
      have HOW := Lib.hid (HG.out.alloc (.cells #[.int .i64 (y - x)] 2)).1.drew
      clear hx hxx hyy hb1 hb2 hm
      go_wp2_with fail
      go_region_law (first
        | (refine step_ap1 rfl (.tmp 12) (.tmp 23) 32 rfl w.heap.size 2 (.int .i64 0) 8 Tryd.underlying32 Tryd.infoI rfl _ k _ rfl HOW.out wr.heap.size (.int .i64 (y - x)) rfl (by go_simp) rfl (by omega) (by omega) (by have := HG.out.2.size; simp only [heap_drew, alloc_size]; omega) ?_; intro v' w6 hown hgrow hat))
      all_goals
        have HG3 := Lib.hid (HG.out.i64 hown (grownBy_trans (grownBy_drewN _ 1 _) hgrow))
        obtain ⟨a6, c6, rfl⟩ := own_form hown
        clear hown hgrow hat
        go_wp2_with fail
        go_roundw
        case rel => exact ⟨k + 1, a6, c6, by omega, by go_num, rfl, Lib.hid (by rw [HS.out]; exact HG3.out)⟩
        case measure => simp [intOf]; omega
    · have hki : ¬ (k : Int) + 1 < (n : Int) := by omega
      have e : k = n - 1 := by omega
      have HK := Lib.hid e
      clear e
      go_wp2_with fail
      go_ret
      rw [← HK.out]
      exact ⟨_, _, rfl, IsInts.of_own HG.out.1, HG.out.2⟩
theorem l03Outputs_any (m : Int) (a : Option Addr) (n cap : Nat) (o : List Int) (w : World) (h : GdO m n o) (hx : IsInts w a n o) : Calls Tryd.prog 33 #[.slice a n cap] w fun e w' => e = .returned (.bool true) ∧ w' = w := by
  have HX := Lib.hid hx
  have HI := Lib.hid (show ∀ j, inR (o.getD j 0) 0 99999 = true from fun j => by
    have := h.bd j
    have := h.m5
    simp only [inR, Bool.and_eq_true, decide_eq_true_eq]; omega)
  have hn4 := h.n4
  have hn64 := h.n64
  clear h hx
  go_enter Tryd.func33, Tryd.ntmps33
  go_wp2_with fail
  go_loopw [3] (fun i wr => ∃ k : Nat, k ≤ n ∧ i = .int .i64 (k : Nat) ∧ wr = w) (fun i _ => n - (intOf i).toNat)
  case atStart => exact ⟨0, Nat.zero_le _, rfl, rfl⟩
  case round =>
    obtain ⟨k, hk, rfl, rfl⟩ := hrel
    by_cases hlt : k < n
    · have hki : (k : Int) < (n : Int) := by omega
      have hk0 : (0 : Int) ≤ (k : Int) := by omega
      obtain ⟨b, off, rfl, c1⟩ := HX.out.at hlt
      have HIk := Lib.hid (HI.out k)
      obtain ⟨x, hxx⟩ : ∃ x, o.getD k 0 = x := ⟨_, rfl⟩
      rw [hxx] at c1 HIk
      clear hxx
      go_wp2_with fail
      refine (l00InV _ _ _ _).mono ?_
      rintro e w2 ⟨rfl, rfl⟩
      rw [HIk.out]
      go_wp2_with fail
      go_roundw
      case rel => exact ⟨k + 1, by omega, by go_num, trivial⟩
      case measure => simp [intOf]; omega
    · obtain rfl : k = n := by omega
      have hki : ¬ (k : Int) < (k : Int) := by omega
      have h3 : (3 : Int) ≤ (k : Int) := by omega
      have h64 : (k : Int) ≤ 64 := by omega
      go_wp2_with fail
      go_ret
      exact ⟨rfl, rfl⟩
end Go.Proofs.YthjndfbjalkckaaDoor

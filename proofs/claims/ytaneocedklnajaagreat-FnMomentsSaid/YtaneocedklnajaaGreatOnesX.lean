import Derived.Test.YtaneocedklnajaaGreatLawY
import Derived.Test.YtaneocedklnajaaGreatLawOX
import Derived.Test.YtaneocedklnajaaGreatChoo
/- The law of the number of ones: program and reference, given the program's lawOf. -/
namespace Go.Proofs.YtaneocedklnajaaGreat
open Go.RowKit
set_option linter.unusedVariables false

theorem law_box {w2 : World} {B r : Nat} {V C : Value} {vs fs : List Int} (h : LawAt w2 B V C vs fs) (hr : r < B) : LawAt ((w2.setCell ⟨r, 0, none⟩ V).setCell ⟨r, 1, none⟩ C) B V C vs fs := by
  have hg := grownBy_trans (grownBy_setCell w2 ⟨r, 0, none⟩ V) (grownBy_setCell (w2.setCell ⟨r, 0, none⟩ V) ⟨r, 1, none⟩ C)
  have aux : ∀ (v : Value) (E sz n : Nat) (xs : List Value), w2.ownsRow B E sz v n xs → v.ownBlock = none ∨ v.ownBlock ≠ some r := fun v E sz n xs ho => by
    cases hv : v.ownBlock with
    | none => exact Or.inl rfl
    | some k =>
      right
      intro e
      have := (ho.lt k hv).1
      cases e
      omega
  exact ⟨h.val.kept hg (aux _ _ _ _ _ h.val), h.cha.kept hg (aux _ _ _ _ _ h.cha), h.dis⟩
theorem below_box {w wA w2 : World} {r : Nat} {u v : Value} (h : Below w.heap.size w w2) (hr : w.heap.size ≤ r) : Below w.heap.size w ((w2.setCell ⟨r, 0, none⟩ u).setCell ⟨r, 1, none⟩ v) := (h.setCell (p := ⟨r, 0, none⟩) hr _).setCell (p := ⟨r, 1, none⟩) hr _
def zeroLaw : Obj := .cells #[.slice none 0 0, .slice none 0 0] 29
theorem pow_cast (n : Nat) (hn : n ≤ 50) : IntKind.i64.wrap ((2 : Int) ^ n) = ((2 ^ n : Nat) : Int) := by
  have h := pow_50 hn
  have e : (2 : Int) ^ n = ((2 ^ n : Nat) : Int) := by simp
  rw [e]
  generalize 2 ^ n = m at h
  exact IntWalk.i64_in _ (by omega)
theorem bin_small (n i : Nat) (hn : n ≤ 50) : bin n i ≤ 1125899906842624 := Nat.le_trans (bin_le_pow n i) (pow_50 hn)
set_option maxRecDepth 100000 in
set_option maxHeartbeats 1600000 in
theorem l05Ones_any (n : Nat) (w : World) (hn : n ≤ 50) : Calls Tryz.prog 85 #[.int .i64 (n : Nat)] w (RetLw w (lvT 0 (binR n (n + 1)) (n + 1)) (lfT (binR n (n + 1)) (2 ^ n) (n + 1))) := by
  have hp := pow_cast n hn
  have hp0 : 0 < 2 ^ n := Nat.two_pow_pos n
  have hp1 := pow_50 hn
  obtain ⟨P, hP⟩ : ∃ P, 2 ^ n = P := ⟨_, rfl⟩
  rw [hP] at hp hp0 hp1 ⊢
  have HA : Below w.heap.size w (w.alloc zeroLaw) := (Below.refl _ _).alloc (Nat.le_refl _) _
  obtain ⟨wA, hwA⟩ : ∃ w', w.alloc zeroLaw = w' := ⟨_, rfl⟩
  have hbx : LBox wA w.heap.size (.slice none 0 0) (.slice none 0 0) := by rw [← hwA]; exact heap_at_new _ _
  rw [hwA] at HA
  unfold zeroLaw at hwA
  have hsz : w.heap.size < wA.heap.size := by rw [← hwA]; simp
  have H0 := Lib.hid (And.intro (GrowAt.start wA 2) (And.intro HA (And.intro hbx hsz)))
  clear hbx HA hP hsz
  have hni : (0:Int) ≤ (n:Int) := by omega
  go_enter Tryz.func85, Tryz.ntmps85
  go_wp2_with fail
  go_loopw [4, 3] (fun v8 v3 wr => ∃ j : Nat, j ≤ n + 1 ∧ v8 = .int .i64 (j : Nat) ∧ Hid (GrowAt wA wr 2 v3 j ((binR n j).map (Value.int .i64)))) (fun v8 _ _ => n + 1 - (intOf v8).toNat)
  case atStart => exact ⟨0, Nat.zero_le _, rfl, Lib.hid H0.out.1⟩
  case round =>
    obtain ⟨j, hj, rfl, HG⟩ := hrel
    obtain ⟨av, cv, rfl⟩ := own_form HG.out.1
    by_cases hlt : j < n + 1
    · have hj0 : (0:Int) ≤ (j:Int) := by omega
      have hji : (j:Int) ≤ (n:Int) := by omega
      have HW := Lib.hid (fun w => l01Choose_any n j w hn (by omega))
      have HS := Lib.hid (binR_succ n j)
      obtain ⟨z, hz⟩ : ∃ z : Int, ((bin n j : Nat) : Int) = z := ⟨_, rfl⟩
      rw [hz] at HW HS
      clear hz
      go_wp2_with fail
      refine (HW.out _).mono ?_
      rintro e w1 ⟨rfl, hb1⟩
      have HG1 := Lib.hid (HG.out.ret hb1)
      have HOW := Lib.hid (HG1.out.alloc (.cells #[.int .i64 z] 2)).1
      clear hb1
      go_wp2_with (at_builtin; refine wpList_ap1 rfl (.tmp 11) (.tmp 15) 22 rfl wA.heap.size 2 (.int .i64 0) 8 Tryz.underlying22 Tryz.infoI rfl _ j _ rfl HOW.out w1.heap.size (.int .i64 z) rfl (by go_simp) rfl (by omega) (by omega) (by have := HG1.out.2.size; simp only [alloc_size]; omega) ?_)
      intro v' w6 hown hgrow _
      have HG3 := Lib.hid (HG1.out.i64 hown hgrow)
      clear hown hgrow
      go_wp2
      go_roundw
      case rel => exact ⟨j + 1, by omega, by go_num, Lib.hid (by rw [HS.out]; exact HG3.out)⟩
      case measure => simp [intOf]; omega
    · obtain rfl : j = n + 1 := by omega
      go_wp2_with fail
      refine (l05Counted_any _ _ _ (binR n (n + 1)) P _ (IsInts.of_own HG.out.1) (by omega) hp0 (by omega) (fun i hi => by rw [binR_at hi]; have := bin_small n i hn; omega)).mono ?_
      rintro e w2 ⟨V, C, rfl, hl, hb⟩
      obtain ⟨a1, c1, rfl⟩ := own_shape hl.val
      obtain ⟨a2, c2, rfl⟩ := own_shape hl.cha
      have hb2 := bthen HG.out.2 hb
      have hbx := H0.out.2.2.1.below hb2
      obtain ⟨q1, q2, q3, q4⟩ := pair_cells hbx
      have hr : w.heap.size < wr.heap.size := Nat.lt_of_lt_of_le H0.out.2.2.2 HG.out.2.size
      have HF := Lib.hid (And.intro ((law_box hl hr).mono (Nat.le_of_lt hr)) (below_box (wA := wA) (bthen H0.out.2.1 hb2) (Nat.le_refl _) (u := .slice a1 (lvT 0 (binR n (n + 1)) (n + 1)).length c1) (v := .slice a2 (lvT 0 (binR n (n + 1)) (n + 1)).length c2)))
      clear hl hb hb2 hbx hr
      go_wp2_with fail
      refine bodyPost_ret (v := .agg #[.slice a1 _ c1, .slice a2 _ c2]) (by simp [results, Tryz.results85, go_sem, *]) rfl ⟨_, _, rfl, HF.out.1, HF.out.2⟩
def fairL (V : Nat → List Int) (n : Int) : List Int := if inR n 1 50 then V n.toNat else []
end Go.Proofs.YtaneocedklnajaaGreat
/- The law of the number of runs: program and reference, given the program's lawOf. -/
namespace Go.Proofs.YtaneocedklnajaaGreat
open Go.RowKit
set_option linter.unusedVariables false

/-- The counts of runs. -/
def runR (n j : Nat) : List Int := (List.range j).map fun i => 2 * ((bin (n - 1) i : Nat) : Int)
theorem runR_at {n j i : Nat} (h : i < j) : (runR n j).getD i 0 = 2 * ((bin (n - 1) i : Nat) : Int) := by simp [runR, List.getD, h]
theorem runR_succ (n j : Nat) : runR n (j + 1) = runR n j ++ [2 * ((bin (n - 1) j : Nat) : Int)] := by simp [runR, List.range_succ]
theorem lvT_shift (cs : List Int) : ∀ m, lvT 0 (0 :: cs) (m + 1) = lvT 1 cs m
  | 0 => rfl
  | m + 1 => by
    rw [lvT, lvT_shift cs m, lvT, show (0 :: cs).getD (m + 1) 0 = cs.getD m 0 from rfl]
    split
    · congr 2; push_cast; omega
    · rfl
theorem lfT_shift (cs : List Int) (all : Nat) : ∀ m, lfT (0 :: cs) all (m + 1) = lfT cs all m
  | 0 => rfl
  | m + 1 => by rw [lfT, lfT_shift cs all m, lfT, show (0 :: cs).getD (m + 1) 0 = cs.getD m 0 from rfl]
set_option maxRecDepth 100000 in
set_option maxHeartbeats 1600000 in
theorem l05Runs_any (n : Nat) (w : World) (hn : n ≤ 50) (hn1 : 1 ≤ n) : Calls Tryz.prog 86 #[.int .i64 (n : Nat)] w (RetLw w (lvT 1 (runR n n) n) (lfT (runR n n) (2 ^ n) n)) := by
  have hp := pow_cast n hn
  have hp0 : 0 < 2 ^ n := Nat.two_pow_pos n
  have hp1 := pow_50 hn
  obtain ⟨P, hP⟩ : ∃ P, 2 ^ n = P := ⟨_, rfl⟩
  rw [hP] at hp hp0 hp1 ⊢
  have HA : Below w.heap.size w (w.alloc zeroLaw) := (Below.refl _ _).alloc (Nat.le_refl _) _
  obtain ⟨wA, hwA⟩ : ∃ w', w.alloc zeroLaw = w' := ⟨_, rfl⟩
  have hbx : LBox wA w.heap.size (.slice none 0 0) (.slice none 0 0) := by rw [← hwA]; exact heap_at_new _ _
  rw [hwA] at HA
  unfold zeroLaw at hwA
  have hsz : w.heap.size < wA.heap.size := by rw [← hwA]; simp
  have H0 := Lib.hid (And.intro (GrowAt.one wA 0) (And.intro HA (And.intro hbx hsz)))
  clear hbx HA hP hsz
  have hni : (0:Int) ≤ (n:Int) := by omega
  have hni1 : (1:Int) ≤ (n:Int) := by omega
  go_enter Tryz.func86, Tryz.ntmps86
  go_wp2_with fail
  go_loopw [4, 3] (fun v8 v3 wr => ∃ j : Nat, j ≤ n ∧ v8 = .int .i64 (j : Nat) ∧ Hid (GrowAt wA wr 2 v3 (j + 1) ((0 :: runR n j).map (Value.int .i64)))) (fun v8 _ _ => n - (intOf v8).toNat)
  case atStart => exact ⟨0, Nat.zero_le _, rfl, Lib.hid H0.out.1⟩
  case round =>
    obtain ⟨j, hj, rfl, HG⟩ := hrel
    obtain ⟨av, cv, rfl⟩ := own_form HG.out.1
    by_cases hlt : j < n
    · have hj0 : (0:Int) ≤ (j:Int) := by omega
      have hji : (j:Int) < (n:Int) := by omega
      have hwn2 : (n:Int) - 1 = ((n - 1 : Nat) : Int) := by omega
      have hbs := bin_small (n - 1) j (by omega)
      have HW := Lib.hid (fun w => l01Choose_any (n - 1) j w (by omega) (by omega))
      have HS := Lib.hid (runR_succ n j)
      obtain ⟨y, hy⟩ : ∃ y : Nat, bin (n - 1) j = y := ⟨_, rfl⟩
      rw [hy] at HW HS hbs
      have hz : IntKind.i64.wrap (2 * (y : Int)) = 2 * (y : Int) := IntWalk.i64_in _ (by omega)
      clear hy
      go_wp2_with fail
      refine (HW.out _).mono ?_
      rintro e w1 ⟨rfl, hb1⟩
      have HG1 := Lib.hid (HG.out.ret hb1)
      have HOW := Lib.hid (HG1.out.alloc (.cells #[.int .i64 (2 * (y : Int))] 2)).1
      clear hb1
      go_wp2_with (at_builtin; refine wpList_ap1 rfl (.tmp 11) (.tmp 17) 22 rfl wA.heap.size 2 (.int .i64 0) 8 Tryz.underlying22 Tryz.infoI rfl _ (j + 1) _ rfl HOW.out w1.heap.size (.int .i64 (2 * (y : Int))) rfl (by go_simp) rfl (by omega) (by omega) (by have := HG1.out.2.size; simp only [alloc_size]; omega) ?_)
      intro v' w6 hown hgrow _
      have HG3 := Lib.hid (HG1.out.i64 hown hgrow)
      clear hown hgrow
      go_wp2
      go_roundw
      case rel => exact ⟨j + 1, by omega, by go_num, Lib.hid (by rw [HS.out]; exact HG3.out)⟩
      case measure => simp [intOf]; omega
    · obtain rfl : j = n := by omega
      go_wp2_with fail
      refine (l05Counted_any _ _ _ (0 :: runR j j) P _ (IsInts.of_own HG.out.1) (by omega) hp0 (by omega) (fun i hi => by
        cases i with
        | zero => simp
        | succ i =>
          rw [show (0 :: runR j j).getD (i + 1) 0 = (runR j j).getD i 0 from rfl, runR_at (by omega)]
          have := bin_small (j - 1) i (by omega)
          omega)).mono ?_
      rintro e w2 ⟨V, C, rfl, hl, hb⟩
      rw [lvT_shift, lfT_shift] at hl
      obtain ⟨a1, c1, rfl⟩ := own_shape hl.val
      obtain ⟨a2, c2, rfl⟩ := own_shape hl.cha
      have hb2 := bthen HG.out.2 hb
      have hbx := H0.out.2.2.1.below hb2
      obtain ⟨q1, q2, q3, q4⟩ := pair_cells hbx
      have hr : w.heap.size < wr.heap.size := Nat.lt_of_lt_of_le H0.out.2.2.2 HG.out.2.size
      have HF := Lib.hid (And.intro ((law_box hl hr).mono (Nat.le_of_lt hr)) (below_box (wA := wA) (bthen H0.out.2.1 hb2) (Nat.le_refl _) (u := .slice a1 (lvT 1 (runR j j) j).length c1) (v := .slice a2 (lvT 1 (runR j j) j).length c2)))
      clear hl hb hb2 hbx hr
      go_wp2_with fail
      refine bodyPost_ret (v := .agg #[.slice a1 _ c1, .slice a2 _ c2]) (by simp [results, Tryz.results86, go_sem, *]) rfl ⟨_, _, rfl, HF.out.1, HF.out.2⟩
end Go.Proofs.YtaneocedklnajaaGreat

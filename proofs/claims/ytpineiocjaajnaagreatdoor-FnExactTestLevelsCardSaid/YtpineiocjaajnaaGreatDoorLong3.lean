import Derived.Test.YtpineiocjaajnaaGreatDoorLongX
import Derived.Test.YtpineiocjaajnaaGreatDoorLawE
/- The law of the longest run: the reference, and the law FnExactLongestLaw. No condition. -/
namespace Go.Proofs.YtpineiocjaajnaaGreatDoor
open Go.RowKit
set_option linter.unusedVariables false

set_option maxRecDepth 100000 in
set_option maxHeartbeats 1600000 in
theorem l05Longest_any (n : Nat) (w : World) (hn : n ≤ 50) (hn1 : 1 ≤ n) : Calls Tryz.prog 74 #[.int .i64 (n : Nat)] w (RetLw w (lvT 1 (loR n n) n) (lfT (loR n n) (2 ^ n) n)) := by
  have hp := pow_cast n hn
  have hp0 : 0 < 2 ^ n := Nat.two_pow_pos n
  have hp1 := pow_50 hn
  obtain ⟨P, hP⟩ : ∃ P, 2 ^ n = P := ⟨_, rfl⟩
  rw [hP] at hp hp0 hp1 ⊢
  have HA : Below w.heap.size w (w.alloc zeroLaw) := (Below.refl _ _).alloc (Nat.le_refl _) _
  obtain ⟨wA, hwA⟩ : ∃ w', w.alloc zeroLaw = w' := ⟨_, rfl⟩
  have hbx : LBox wA w.heap.size (.slice none 0 0) (.slice none 0 0) := by rw [← hwA]; exact heap_at_new _ _
  rw [hwA] at HA
  unfold zeroLaw at hwA
  have hsz : w.heap.size < wA.heap.size := by rw [← hwA]; simp
  have H0 := Lib.hid (And.intro (GrowAt.one wA 0) (And.intro HA (And.intro hbx hsz)))
  clear hbx HA hP hsz
  have hni : (0:Int) ≤ (n:Int) := by omega
  have hni1 : (1:Int) ≤ (n:Int) := by omega
  have HW0 := Lib.hid (wy_none hn1)
  go_enter Tryz.func74, Tryz.ntmps74
  go_wp2_with fail
  go_loopg [5, 4, 3] n (fun g v5 v4 v3 wr => ∃ j : Nat, j ≤ n ∧ g = n - j ∧ v5 = .int .i64 ((j + 1 : Nat) : Int) ∧ v4 = .int .i64 (2 * ((wy j n : Nat) : Int)) ∧ Hid (GrowAt wA wr 2 v3 (j + 1) ((0 :: loR n j).map (Value.int .i64))))
  case atStart => exact ⟨0, Nat.zero_le _, rfl, rfl, by rw [HW0.out]; rfl, Lib.hid H0.out.1⟩
  case round =>
    obtain ⟨j, hj, rfl, rfl, rfl, HG⟩ := hrel
    obtain ⟨av, cv, rfl⟩ := own_form HG.out.1
    rw [show ((j + 1 : Nat) : Int) = (j : Int) + 1 by omega]
    by_cases hlt : j < n
    · have hj0 : (0:Int) ≤ (j:Int) := by omega
      have hji : (j:Int) + 1 ≤ (n:Int) := by omega
      have HW := Lib.hid (fun w => l05UpTo_any n (j + 1) w hn hn1 (by omega) (by omega))
      have hb1 := wy_small j n hn
      have hb2 := wy_small (j + 1) n hn
      have HS := Lib.hid (loR_succ n j)
      obtain ⟨Y, hY⟩ : ∃ Y, wy j n = Y := ⟨_, rfl⟩
      obtain ⟨Z, hZ⟩ : ∃ Z, wy (j + 1) n = Z := ⟨_, rfl⟩
      rw [hY, hZ] at HS
      rw [hZ] at HW hb2
      rw [hY] at hb1 ⊢
      rw [show (((j + 1 : Nat)) : Int) = (j : Int) + 1 by omega] at HW
      have HZ := Lib.hid hZ
      clear hY hZ
      have hw2 : IntKind.i64.wrap (2 * (Z : Int) - 2 * (Y : Int)) = 2 * (Z : Int) - 2 * (Y : Int) := IntWalk.i64_in _ (by omega)
      go_wp2_with fail
      refine (HW.out _).mono ?_
      rintro e w1 ⟨rfl, hb1⟩
      have HG1 := Lib.hid (HG.out.ret hb1)
      have HOW := Lib.hid (HG1.out.alloc (.cells #[.int .i64 (2 * (Z : Int) - 2 * (Y : Int))] 2)).1
      clear hb1
      go_wp2_with (at_builtin; refine wpList_ap1 rfl (.tmp 16) (.tmp 20) 26 rfl wA.heap.size 2 (.int .i64 0) 8 Tryz.underlying26 Tryz.infoI rfl _ (j + 1) _ rfl HOW.out w1.heap.size (.int .i64 (2 * (Z : Int) - 2 * (Y : Int))) rfl (by go_simp) rfl (by omega) (by omega) (by have := HG1.out.2.size; simp only [alloc_size]; omega) ?_)
      intro v' w6 hown hgrow _
      have HG3 := Lib.hid (HG1.out.i64 hown hgrow)
      clear hown hgrow
      go_wp2
      go_roundg (n - (j + 1))
      case measure => omega
      case rel => exact ⟨j + 1, by omega, rfl, by go_num, by rw [HZ.out], Lib.hid (by rw [HS.out]; exact HG3.out)⟩
    · obtain rfl : j = n := by omega
      have hjn2 : ¬ (j:Int) + 1 ≤ (j:Int) := by omega
      go_wp2_with fail
      refine (l05Counted_any _ _ _ (0 :: loR j j) P _ (IsInts.of_own HG.out.1) (by omega) hp0 (by omega) (fun i hi => by
        cases i with
        | zero => simp
        | succ i =>
          rw [show (0 :: loR j j).getD (i + 1) 0 = (loR j j).getD i 0 from rfl, loR_at (by omega)]
          have := wy_small (i + 1) j hn
          omega)).mono ?_
      rintro e w2 ⟨V, C, rfl, hl, hb⟩
      rw [lvT_shift, lfT_shift] at hl
      obtain ⟨a1, c1, rfl⟩ := own_shape hl.val
      obtain ⟨a2, c2, rfl⟩ := own_shape hl.cha
      have hb2 := bthen HG.out.2 hb
      have hbx := H0.out.2.2.1.below hb2
      obtain ⟨q1, q2, q3, q4⟩ := pair_cells hbx
      have hr : w.heap.size < wr.heap.size := Nat.lt_of_lt_of_le H0.out.2.2.2 HG.out.2.size
      have HF := Lib.hid (And.intro ((law_box hl hr).mono (Nat.le_of_lt hr)) (below_box (wA := wA) (bthen H0.out.2.1 hb2) (Nat.le_refl _) (u := .slice a1 (lvT 1 (loR j j) j).length c1) (v := .slice a2 (lvT 1 (loR j j) j).length c2)))
      clear hl hb hb2 hbx hr
      go_wp2_with fail
      refine bodyPost_ret (v := .agg #[.slice a1 _ c1, .slice a2 _ c2]) (by simp [results, Tryz.results74, go_sem, *]) rfl ⟨_, _, rfl, HF.out.1, HF.out.2⟩
def ltV (k : Nat) : List Int := lvT 1 (loR k k) k
def ltF (k : Nat) : List Int := lfT (loR k k) (2 ^ k) k
end Go.Proofs.YtpineiocjaajnaaGreatDoor

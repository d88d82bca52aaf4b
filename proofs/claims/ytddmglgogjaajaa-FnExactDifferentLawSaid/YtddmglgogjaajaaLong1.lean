import Derived.Test.YtddmglgogjaajaaRunsL
import Derived.Test.YtddmglgogjaajaaCountP
/- The law of the longest run: the program, given its lawOf. -/
namespace Go.Proofs.Ytddmglgogjaajaa
open Go.RowKit
set_option linter.unusedVariables false

theorem wy_none {n : Nat} (hn : 1 ≤ n) : wy 0 n = 0 := by
  obtain ⟨k, rfl⟩ : ∃ k, n = k + 1 := ⟨n - 1, by omega⟩
  rw [wy_succ]
  simp [sum1]
theorem wy_small (q k : Nat) (hk : k ≤ 50) : wy q k ≤ 1125899906842624 := Nat.le_trans (wy_le q k) (pow_50 hk)
/-- The counts of the longest runs. -/
def loR (n j : Nat) : List Int := (List.range j).map fun i => 2 * ((wy (i + 1) n : Nat) : Int) - 2 * ((wy i n : Nat) : Int)
theorem loR_at {n j i : Nat} (h : i < j) : (loR n j).getD i 0 = 2 * ((wy (i + 1) n : Nat) : Int) - 2 * ((wy i n : Nat) : Int) := by simp [loR, List.getD, h]
theorem loR_succ (n j : Nat) : loR n (j + 1) = loR n j ++ [2 * ((wy (j + 1) n : Nat) : Int) - 2 * ((wy j n : Nat) : Int)] := by simp [loR, List.range_succ]
def wyI (q k : Nat) : List Int := (wyL q k).map fun (x : Nat) => (x : Int)
theorem wyI_at {q k j : Nat} (h : j ≤ k) : (wyI q k).getD j 0 = ((wy q j : Nat) : Int) := by
  have h1 : j < (wyL q k).length := by rw [wyL_len]; omega
  rw [← wyL_at q k j h]
  simp [wyI, List.getD, h1]
theorem wyI_succ (q k : Nat) : wyI q (k + 1) = wyI q k ++ [((wy q (k + 1) : Nat) : Int)] := by
  have h : wy q (k + 1) = sum1 (fun r => (wyL q k).getD (k + 1 - r) 0) (min q (k + 1)) := by
    have hl := wyL_len q k
    unfold wy
    rw [show wyL q (k + 1) = wyL q k ++ [sum1 (fun r => (wyL q k).getD (k + 1 - r) 0) (min q (k + 1))] from rfl]
    simp [List.getD, hl]
  unfold wyI
  rw [show wyL q (k + 1) = wyL q k ++ [sum1 (fun r => (wyL q k).getD (k + 1 - r) 0) (min q (k + 1))] from rfl, ← h]
  simp
theorem sum_small (q k m : Nat) (hk : k + 1 ≤ 50) (hm : m ≤ k + 1) : sum1 (fun r => wy q (k + 1 - r)) m ≤ 1125899906842624 := Nat.le_trans (wy_part_le q k m hm) (pow_50 hk)
set_option maxRecDepth 100000 in
set_option maxHeartbeats 3200000 in
theorem longestLaw_of (HC : LawOfC) (n : Nat) (w : World) (hn : n ≤ 50) (hn1 : 1 ≤ n) : Calls Try.prog 84 #[.int .i64 (n : Nat)] w (RetLw w (lvT 1 (loR n n) n) (lfT (loR n n) (2 ^ n) n)) := by
  have hp := pow_cast n hn
  have hp0 : 0 < 2 ^ n := Nat.two_pow_pos n
  have hp1 := pow_50 hn
  obtain ⟨P, hP⟩ : ∃ P, 2 ^ n = P := ⟨_, rfl⟩
  rw [hP] at hp hp0 hp1 ⊢
  have HLC := Lib.hid HC
  have HA : Below w.heap.size w (w.alloc zeroLaw) := (Below.refl _ _).alloc (Nat.le_refl _) _
  obtain ⟨wA, hwA⟩ : ∃ w', w.alloc zeroLaw = w' := ⟨_, rfl⟩
  have hbx : LBox wA w.heap.size (.slice none 0 0) (.slice none 0 0) := by rw [← hwA]; exact heap_at_new _ _
  rw [hwA] at HA
  unfold zeroLaw at hwA
  have hsz : w.heap.size < wA.heap.size := by rw [← hwA]; simp
  have H0 := Lib.hid (And.intro (GrowAt.start wA 2) (And.intro HA (And.intro hbx hsz)))
  clear hbx HA HC hP hsz
  have hni : (0:Int) ≤ (n:Int) := by omega
  have hni1 : (1:Int) ≤ (n:Int) := by omega
  have hw0 := wy_none hn1
  have HW0 := Lib.hid hw0
  clear hw0
  go_enter Try.func84, Try.ntmps84
  go_wp2_with fail
  go_loopg [5, 4, 3] n (fun g v5 v4 v3 wr => ∃ j : Nat, j ≤ n ∧ g = n - j ∧ v5 = .int .i64 ((j + 1 : Nat) : Int) ∧ v4 = .int .i64 (2 * ((wy j n : Nat) : Int)) ∧ Hid (GrowAt wA wr 2 v3 j ((loR n j).map (Value.int .i64))))
  case atStart => exact ⟨0, Nat.zero_le _, rfl, rfl, by rw [HW0.out]; rfl, Lib.hid H0.out.1⟩
  case round =>
    obtain ⟨j, hj, rfl, rfl, rfl, HG⟩ := hrel
    obtain ⟨av, cv, rfl⟩ := own_form HG.out.1
    rw [show ((j + 1 : Nat) : Int) = (j : Int) + 1 by omega]
    by_cases hlt : j < n
    · have hj0 : (0:Int) ≤ (j:Int) := by omega
      have hji : (j:Int) + 1 ≤ (n:Int) := by omega
      have HN0 := Lib.hid (GrowAt.one wr 1)
      have hwj := wy_small j n hn
      obtain ⟨Y, hY⟩ : ∃ Y, wy j n = Y := ⟨_, rfl⟩
      rw [hY] at hwj ⊢
      have HY := Lib.hid hY
      clear hY
      obtain ⟨wa, hwa⟩ : ∃ wa : World, wa = wr := ⟨_, rfl⟩
      subst hwa
      go_wp2
      go_loopg [7, 6] n (fun g v7 v6 wx => ∃ (k : Nat) (v : Value), k ≤ n ∧ g = n - k ∧ v7 = .int .i64 ((k + 1 : Nat) : Int) ∧ v6 = v ∧ Hid (GrowAt wa wx 2 v (k + 1) ((wyI (j + 1) k).map (Value.int .i64))))
      case atStart => exact ⟨0, _, Nat.zero_le _, rfl, rfl, rfl, Lib.hid HN0.out⟩
      case round =>
        clear HN0
        obtain ⟨k, v, hk, rfl, rfl, rfl, HV⟩ := hrel
        obtain ⟨ax, cx, rfl⟩ := own_form HV.out.1
        rw [show ((k + 1 : Nat) : Int) = (k : Int) + 1 by omega]
        by_cases hkn : k < n
        · have hk0 : (0:Int) ≤ (k:Int) := by omega
          have hki : (k:Int) + 1 ≤ (n:Int) := by omega
          obtain ⟨M, hM⟩ : ∃ M, min (j + 1) (k + 1) = M := ⟨_, rfl⟩
          have hMi : min ((j:Int) + 1) ((k:Int) + 1) = (M : Int) := by omega
          have hMk : M ≤ k + 1 := by omega
          have HM := Lib.hid hM
          clear hM
          obtain ⟨wb, hwb⟩ : ∃ wb : World, wb = wr := ⟨_, rfl⟩
          subst hwb
          go_wp2
          go_loopg [9, 8] M (fun g v9 v8 wx => ∃ (r : Nat) (s : Nat), r ≤ M ∧ g = M - r ∧ v9 = .int .i64 ((r + 1 : Nat) : Int) ∧ v8 = .int .i64 (s : Nat) ∧ Hid (sum1 (fun r => wy (j + 1) (k + 1 - r)) r = s) ∧ wx = wb)
          case atStart => exact ⟨0, 0, Nat.zero_le _, rfl, rfl, rfl, Lib.hid rfl, rfl⟩
          case round =>
            obtain ⟨r, s, hr, rfl, rfl, rfl, HS, rfl⟩ := hrel
            rw [show ((r + 1 : Nat) : Int) = (r : Int) + 1 by omega]
            by_cases hrM : r < M
            · have hr0 : (0:Int) ≤ (r:Int) := by omega
              have hri : (r:Int) + 1 ≤ (M:Int) := by omega
              have hidx : (k:Int) + 1 - ((r:Int) + 1) = ((k - r : Nat) : Int) := by omega
              obtain ⟨b, off, rfl, c1⟩ := (IsInts.of_own HV.out.1).at (show k - r < k + 1 by omega)
              rw [wyI_at (by omega)] at c1
              have hst : sum1 (fun r => wy (j + 1) (k + 1 - r)) (r + 1) = s + wy (j + 1) (k - r) := by rw [sum1, HS.out, show k + 1 - (r + 1) = k - r by omega]
              have hbd := sum_small (j + 1) k (r + 1) (by omega) (by omega)
              obtain ⟨x, hx⟩ : ∃ x, wy (j + 1) (k - r) = x := ⟨_, rfl⟩
              rw [hx] at c1 hst
              rw [hst] at hbd
              have HS2 := Lib.hid hst
              have hww : IntKind.i64.wrap ((s : Int) + (x : Int)) = (s : Int) + (x : Int) := IntWalk.i64_in _ (by omega)
              have hwi : IntKind.i64.wrap ((k:Int) - (r:Int)) = ((k - r : Nat) : Int) := by rw [show (k:Int) - (r:Int) = ((k - r : Nat) : Int) by omega]; exact IntWalk.i64_in _ (by omega)
              obtain ⟨d, hd⟩ : ∃ d, k - r = d := ⟨_, rfl⟩
              rw [hd] at c1 hidx hwi
              have hd0 : (0:Int) ≤ (d:Int) := by omega
              have hdk : (d:Int) < (k:Int) + 1 := by omega
              clear hst hbd hx hd
              go_wp2
              go_roundg (M - (r + 1))
              case measure => omega
              case rel => exact ⟨r + 1, s + x, by omega, rfl, by go_num, by go_num, HS2, rfl⟩
            · obtain rfl : r = M := by omega
              have hrn : ¬ (r:Int) + 1 ≤ (r:Int) := by omega
              have HS3 := Lib.hid (show wy (j + 1) (k + 1) = s by rw [wy_succ, HM.out, HS.out])
              have HOW := Lib.hid (HV.out.alloc (.cells #[.int .i64 (s : Nat)] 2)).1
              go_wp2_with (at_builtin; refine wpList_ap1 rfl (.tmp 37) (.tmp 39) 30 rfl wa.heap.size 2 (.int .i64 0) 8 Try.underlying30 Try.infoI rfl _ (k + 1) _ rfl HOW.out wr.heap.size (.int .i64 (s : Nat)) rfl (by go_simp) rfl (by omega) (by omega) (by have := HV.out.2.size; simp only [alloc_size]; omega) ?_)
              intro v' w6 hown hgrow _
              have HG3 := Lib.hid (HV.out.i64 hown hgrow)
              clear hown hgrow
              go_wp2
              go_roundg (n - (k + 1))
              case measure => omega
              case rel => exact ⟨k + 1, _, by omega, rfl, by go_num, rfl, Lib.hid (by rw [wyI_succ, HS3.out]; exact HG3.out)⟩
        · obtain rfl : k = n := by omega
          have hkn2 : ¬ (k:Int) + 1 ≤ (k:Int) := by omega
          have hkk : (k:Int) < (k:Int) + 1 := by omega
          obtain ⟨b, off, rfl, c1⟩ := (IsInts.of_own HV.out.1).at (show k < k + 1 by omega)
          rw [wyI_at (by omega)] at c1
          have hz := wy_small (j + 1) k hn
          have HS := Lib.hid (loR_succ k j)
          obtain ⟨Z, hZ⟩ : ∃ Z, wy (j + 1) k = Z := ⟨_, rfl⟩
          rw [hZ] at c1 hz HS
          rw [HY.out] at HS
          have HZ := Lib.hid hZ
          clear hZ
          have hw1 : IntKind.i64.wrap (2 * (Z : Int)) = 2 * (Z : Int) := IntWalk.i64_in _ (by omega)
          have hw2 : IntKind.i64.wrap (2 * (Z : Int) - 2 * (Y : Int)) = 2 * (Z : Int) - 2 * (Y : Int) := IntWalk.i64_in _ (by omega)
          have HGr := Lib.hid (HG.out.ret HV.out.2)
          have HOW := Lib.hid (HGr.out.alloc (.cells #[.int .i64 (2 * (Z : Int) - 2 * (Y : Int))] 2)).1
          have HD := Lib.hid (dis_symm (dis_new HG.out.1 HV.out.1 (Nat.le_refl _)))
          go_wp2_with (at_builtin; refine wpList_ap1 rfl (.tmp 41) (.tmp 49) 30 rfl wA.heap.size 2 (.int .i64 0) 8 Try.underlying30 Try.infoI rfl _ j _ rfl HOW.out wr.heap.size (.int .i64 (2 * (Z : Int) - 2 * (Y : Int))) rfl (by go_simp) rfl (by omega) (by omega) (by have := HGr.out.2.size; simp only [alloc_size]; omega) ?_)
          intro v' w6 hown hgrow _
          have HG3 := Lib.hid (HGr.out.i64 hown hgrow)
          obtain ⟨b', off', e1, c2⟩ := (IsInts.of_own ((HV.out.1.alloc _).kept hgrow HD.out)).at (show k < k + 1 by omega)
          simp only [Option.some.injEq, Addr.mk.injEq] at e1
          obtain ⟨rfl, rfl, _⟩ := e1
          rw [wyI_at (by omega), HZ.out] at c2
          clear hown hgrow c1
          go_wp2
          go_roundg (k - (j + 1))
          case measure => omega
          case rel => exact ⟨j + 1, by omega, rfl, by go_num, by rw [HZ.out], Lib.hid (by rw [HS.out]; exact HG3.out)⟩
    · obtain rfl : j = n := by omega
      have hjn2 : ¬ (j:Int) + 1 ≤ (j:Int) := by omega
      go_wp2_with fail
      refine (HLC.out 1 _ _ _ (loR j j) P _ (IsInts.of_own HG.out.1) (by omega) (by omega) hp0 (by omega) (fun i hi => by rw [loR_at hi]; have := wy_small (i + 1) j hn; omega)).mono ?_
      rintro e w2 ⟨V, C, rfl, hl, hb⟩
      obtain ⟨a1, c1, rfl⟩ := own_shape hl.val
      obtain ⟨a2, c2, rfl⟩ := own_shape hl.cha
      have hb2 := bthen HG.out.2 hb
      have hbx := H0.out.2.2.1.below hb2
      obtain ⟨q1, q2, q3, q4⟩ := pair_cells hbx
      have hr : w.heap.size < wr.heap.size := Nat.lt_of_lt_of_le H0.out.2.2.2 HG.out.2.size
      have HF := Lib.hid (And.intro ((law_box hl hr).mono (Nat.le_of_lt hr)) (below_box (wA := wA) (bthen H0.out.2.1 hb2) (Nat.le_refl _) (u := .slice a1 (lvT 1 (loR j j) j).length c1) (v := .slice a2 (lvT 1 (loR j j) j).length c2)))
      clear hl hb hb2 hbx hr
      go_wp2_with fail
      refine bodyPost_ret (v := .agg #[.slice a1 _ c1, .slice a2 _ c2]) (by simp [results, Try.results84, go_sem, *]) rfl ⟨_, _, rfl, HF.out.1, HF.out.2⟩
end Go.Proofs.Ytddmglgogjaajaa

import Derived.Test.YtlckamnadddlmaaGreatDoorOnesX
import Derived.Test.YtlckamnadddlmaaGreatDoorBinX
import Derived.BigRegion
/- The law of the longest run: the program, given its lawOf. -/
namespace Go.Proofs.YtlckamnadddlmaaGreatDoor
open Go.RowKit
set_option linter.unusedVariables false

theorem wy_none {n : Nat} (hn : 1 ≤ n) : wy 0 n = 0 := by
  obtain ⟨k, rfl⟩ : ∃ k, n = k + 1 := ⟨n - 1, by omega⟩
  rw [wy_succ]
  simp [sum1]
theorem wy_small (q k : Nat) (hk : k ≤ 50) : wy q k ≤ 1125899906842624 := Nat.le_trans (wy_le q k) (pow_50 hk)
/-- The counts of the longest runs. -/
def loR (n j : Nat) : List Int := (List.range j).map fun i => 2 * ((wy (i + 1) n : Nat) : Int) - 2 * ((wy i n : Nat) : Int)
theorem loR_at {n j i : Nat} (h : i < j) : (loR n j).getD i 0 = 2 * ((wy (i + 1) n : Nat) : Int) - 2 * ((wy i n : Nat) : Int) := by simp [loR, List.getD, h]
theorem loR_succ (n j : Nat) : loR n (j + 1) = loR n j ++ [2 * ((wy (j + 1) n : Nat) : Int) - 2 * ((wy j n : Nat) : Int)] := by simp [loR, List.range_succ]
def wyI (q k : Nat) : List Int := (wyL q k).map fun (x : Nat) => (x : Int)
theorem wyI_at {q k j : Nat} (h : j ≤ k) : (wyI q k).getD j 0 = ((wy q j : Nat) : Int) := by
  have h1 : j < (wyL q k).length := by rw [wyL_len]; omega
  rw [← wyL_at q k j h]
  simp [wyI, List.getD, h1]
theorem wyI_succ (q k : Nat) : wyI q (k + 1) = wyI q k ++ [((wy q (k + 1) : Nat) : Int)] := by
  have h : wy q (k + 1) = sum1 (fun r => (wyL q k).getD (k + 1 - r) 0) (min q (k + 1)) := by
    have hl := wyL_len q k
    unfold wy
    rw [show wyL q (k + 1) = wyL q k ++ [sum1 (fun r => (wyL q k).getD (k + 1 - r) 0) (min q (k + 1))] from rfl]
    simp [List.getD, hl]
  unfold wyI
  rw [show wyL q (k + 1) = wyL q k ++ [sum1 (fun r => (wyL q k).getD (k + 1 - r) 0) (min q (k + 1))] from rfl, ← h]
  simp
theorem wySum_small (q k m : Nat) (hk : k + 1 ≤ 50) (hm : m ≤ k + 1) : sum1 (fun r => wy q (k + 1 - r)) m ≤ 1125899906842624 := Nat.le_trans (wy_part_le q k m hm) (pow_50 hk)
set_option maxRecDepth 100000 in
set_option maxHeartbeats 3200000 in
theorem longestLaw_of (HC : LawOfC) (n : Nat) (w : World) (hn : n ≤ 50) (hn1 : 1 ≤ n) : Calls Tryz.prog 24 #[.int .i64 (n : Nat)] w (RetLw w (lvT 1 (loR n n) n) (lfT (loR n n) (2 ^ n) n)) := by
  have hp := pow_cast n hn
  have hp0 : 0 < 2 ^ n := Nat.two_pow_pos n
  have hp1 := pow_50 hn
  obtain ⟨P, hP⟩ : ∃ P, 2 ^ n = P := ⟨_, rfl⟩
  rw [hP] at hp hp0 hp1 ⊢
  have HLC := Lib.hid HC
  have HA : Below w.heap.size w (w.alloc zeroLaw) := (Below.refl _ _).alloc (Nat.le_refl _) _
  obtain ⟨wA, hwA⟩ : ∃ w', w.alloc zeroLaw = w' := ⟨_, rfl⟩
  have hbx : LBox wA w.heap.size (.slice none 0 0) (.slice none 0 0) := by rw [← hwA]; exact heap_at_new _ _
  rw [hwA] at HA
  unfold zeroLaw at hwA
  have hsz : w.heap.size < wA.heap.size := by rw [← hwA]; simp
  have H0 := Lib.hid (And.intro (GrowAt.start wA 2) (And.intro HA (And.intro hbx hsz)))
  clear hbx HA HC hP hsz
  have hni : (0:Int) ≤ (n:Int) := by omega
  have hni1 : (1:Int) ≤ (n:Int) := by omega
  have hw0 := wy_none hn1
  have HW0 := Lib.hid hw0
  clear hw0
  go_enter Tryz.func24, Tryz.ntmps24
  go_wp2_with fail
  go_loopg [5, 4, 3] n (fun g v5 v4 v3 wr => ∃ j : Nat, j ≤ n ∧ g = n - j ∧ v5 = .int .i64 ((j + 1 : Nat) : Int) ∧ v4 = .int .i64 (2 * ((wy j n : Nat) : Int)) ∧ Hid (GrowAt wA wr 2 v3 j ((loR n j).map (Value.int .i64))))
  case atStart => exact ⟨0, Nat.zero_le _, rfl, rfl, by rw [HW0.out]; rfl, Lib.hid H0.out.1⟩
  case round =>
    obtain ⟨j, hj, rfl, rfl, rfl, HG⟩ := hrel
    obtain ⟨av, cv, rfl⟩ := own_form HG.out.1
    rw [show ((j + 1 : Nat) : Int) = (j : Int) + 1 by omega]
    by_cases hlt : j < n
    · have hj0 : (0:Int) ≤ (j:Int) := by omega
      have hji : (j:Int) + 1 ≤ (n:Int) := by omega
      have HN0 := Lib.hid (GrowAt.one wr 1)
      have hwj := wy_small j n hn
      obtain ⟨Y, hY⟩ : ∃ Y, wy j n = Y := ⟨_, rfl⟩
      rw [hY] at hwj ⊢
      have HY := Lib.hid hY
      clear hY
      obtain ⟨wa, hwa⟩ : ∃ wa : World, wa = wr := ⟨_, rfl⟩
      subst hwa
      go_wp2
      go_loopg [7, 6] n (fun g v7 v6 wx => ∃ (k : Nat) (v : Value), k ≤ n ∧ g = n - k ∧ v7 = .int .i64 ((k + 1 : Nat) : Int) ∧ v6 = v ∧ Hid (GrowAt wa wx 2 v (k + 1) ((wyI (j + 1) k).map (Value.int .i64))))
      case atStart => exact ⟨0, _, Nat.zero_le _, rfl, rfl, rfl, Lib.hid HN0.out⟩
      case round =>
        clear HN0
        obtain ⟨k, v, hk, rfl, rfl, rfl, HV⟩ := hrel
        obtain ⟨ax, cx, rfl⟩ := own_form HV.out.1
        rw [show ((k + 1 : Nat) : Int) = (k : Int) + 1 by omega]
        by_cases hkn : k < n
        · have hk0 : (0:Int) ≤ (k:Int) := by omega
          have hki : (k:Int) + 1 ≤ (n:Int) := by omega
          obtain ⟨M, hM⟩ : ∃ M, min (j + 1) (k + 1) = M := ⟨_, rfl⟩
          have hMi : min ((j:Int) + 1) ((k:Int) + 1) = (M : Int) := by omega
          have hMk : M ≤ k + 1 := by omega
          have HM := Lib.hid hM
          clear hM
          obtain ⟨wb, hwb⟩ : ∃ wb : World, wb = wr := ⟨_, rfl⟩
          subst hwb
          go_wp2
          go_loopg [9, 8] M (fun g v9 v8 wx => ∃ (r : Nat) (s : Nat), r ≤ M ∧ g = M - r ∧ v9 = .int .i64 ((r + 1 : Nat) : Int) ∧ v8 = .int .i64 (s : Nat) ∧ Hid (sum1 (fun r => wy (j + 1) (k + 1 - r)) r = s) ∧ wx = wb)
          case atStart => exact ⟨0, 0, Nat.zero_le _, rfl, rfl, rfl, Lib.hid rfl, rfl⟩
          case round =>
            obtain ⟨r, s, hr, rfl, rfl, rfl, HS, rfl⟩ := hrel
            rw [show ((r + 1 : Nat) : Int) = (r : Int) + 1 by omega]
            by_cases hrM : r < M
            · have hr0 : (0:Int) ≤ (r:Int) := by omega
              have hri : (r:Int) + 1 ≤ (M:Int) := by omega
              have hidx : (k:Int) + 1 - ((r:Int) + 1) = ((k - r : Nat) : Int) := by omega
              obtain ⟨b, off, rfl, c1⟩ := (IsInts.of_own HV.out.1).at (show k - r < k + 1 by omega)
              rw [wyI_at (by omega)] at c1
              have hst : sum1 (fun r => wy (j + 1) (k + 1 - r)) (r + 1) = s + wy (j + 1) (k - r) := by rw [sum1, HS.out, show k + 1 - (r + 1) = k - r by omega]
              have hbd := wySum_small (j + 1) k (r + 1) (by omega) (by omega)
              obtain ⟨x, hx⟩ : ∃ x, wy (j + 1) (k - r) = x := ⟨_, rfl⟩
              rw [hx] at c1 hst
              rw [hst] at hbd
              have HS2 := Lib.hid hst
              have hww : IntKind.i64.wrap ((s : Int) + (x : Int)) = (s : Int) + (x : Int) := IntWalk.i64_in _ (by omega)
              have hwi : IntKind.i64.wrap ((k:Int) - (r:Int)) = ((k - r : Nat) : Int) := by rw [show (k:Int) - (r:Int) = ((k - r : Nat) : Int) by omega]; exact IntWalk.i64_in _ (by omega)
              obtain ⟨d, hd⟩ : ∃ d, k - r = d := ⟨_, rfl⟩
              rw [hd] at c1 hidx hwi
              have hd0 : (0:Int) ≤ (d:Int) := by omega
              have hdk : (d:Int) < (k:Int) + 1 := by omega
              clear hst hbd hx hd
              go_wp2
              go_roundg (M - (r + 1))
              case measure => omega
              case rel => exact ⟨r + 1, s + x, by omega, rfl, by go_num, by go_num, HS2, rfl⟩
            · obtain rfl : r = M := by omega
              have hrn : ¬ (r:Int) + 1 ≤ (r:Int) := by omega
              have HS3 := Lib.hid (show wy (j + 1) (k + 1) = s by rw [wy_succ, HM.out, HS.out])
              have HOW := Lib.hid (HV.out.alloc (.cells #[.int .i64 (s : Nat)] 2)).1
              go_wp2_with (at_builtin; refine wpList_ap1 rfl (.tmp 37) (.tmp 39) 26 rfl wa.heap.size 2 (.int .i64 0) 8 Tryz.underlying26 Tryz.infoI rfl _ (k + 1) _ rfl HOW.out wr.heap.size (.int .i64 (s : Nat)) rfl (by go_simp) rfl (by omega) (by omega) (by have := HV.out.2.size; simp only [alloc_size]; omega) ?_)
              intro v' w6 hown hgrow _
              have HG3 := Lib.hid (HV.out.i64 hown hgrow)
              clear hown hgrow
              go_wp2
              go_roundg (n - (k + 1))
              case measure => omega
              case rel => exact ⟨k + 1, _, by omega, rfl, by go_num, rfl, Lib.hid (by rw [wyI_succ, HS3.out]; exact HG3.out)⟩
        · obtain rfl : k = n := by omega
          have hkn2 : ¬ (k:Int) + 1 ≤ (k:Int) := by omega
          have hkk : (k:Int) < (k:Int) + 1 := by omega
          obtain ⟨b, off, rfl, c1⟩ := (IsInts.of_own HV.out.1).at (show k < k + 1 by omega)
          rw [wyI_at (by omega)] at c1
          have hz := wy_small (j + 1) k hn
          have HS := Lib.hid (loR_succ k j)
          obtain ⟨Z, hZ⟩ : ∃ Z, wy (j + 1) k = Z := ⟨_, rfl⟩
          rw [hZ] at c1 hz HS
          rw [HY.out] at HS
          have HZ := Lib.hid hZ
          clear hZ
          have hw1 : IntKind.i64.wrap (2 * (Z : Int)) = 2 * (Z : Int) := IntWalk.i64_in _ (by omega)
          have hw2 : IntKind.i64.wrap (2 * (Z : Int) - 2 * (Y : Int)) = 2 * (Z : Int) - 2 * (Y : Int) := IntWalk.i64_in _ (by omega)
          have HGr := Lib.hid (HG.out.ret HV.out.2)
          have HOW := Lib.hid (HGr.out.alloc (.cells #[.int .i64 (2 * (Z : Int) - 2 * (Y : Int))] 2)).1
          have HD := Lib.hid (dis_symm (dis_new HG.out.1 HV.out.1 (Nat.le_refl _)))
          go_wp2_with (at_builtin; refine wpList_ap1 rfl (.tmp 41) (.tmp 49) 26 rfl wA.heap.size 2 (.int .i64 0) 8 Tryz.underlying26 Tryz.infoI rfl _ j _ rfl HOW.out wr.heap.size (.int .i64 (2 * (Z : Int) - 2 * (Y : Int))) rfl (by go_simp) rfl (by omega) (by omega) (by have := HGr.out.2.size; simp only [alloc_size]; omega) ?_)
          intro v' w6 hown hgrow _
          have HG3 := Lib.hid (HGr.out.i64 hown hgrow)
          obtain ⟨b', off', e1, c2⟩ := (IsInts.of_own ((HV.out.1.alloc _).kept hgrow HD.out)).at (show k < k + 1 by omega)
          simp only [Option.some.injEq, Addr.mk.injEq] at e1
          obtain ⟨rfl, rfl, _⟩ := e1
          rw [wyI_at (by omega), HZ.out] at c2
          clear hown hgrow c1
          go_wp2
          go_roundg (k - (j + 1))
          case measure => omega
          case rel => exact ⟨j + 1, by omega, rfl, by go_num, by rw [HZ.out], Lib.hid (by rw [HS.out]; exact HG3.out)⟩
    · obtain rfl : j = n := by omega
      have hjn2 : ¬ (j:Int) + 1 ≤ (j:Int) := by omega
      go_wp2_with fail
      refine (HLC.out 1 _ _ _ (loR j j) P _ (IsInts.of_own HG.out.1) (by omega) (by omega) hp0 (by omega) (fun i hi => by rw [loR_at hi]; have := wy_small (i + 1) j hn; omega)).mono ?_
      rintro e w2 ⟨V, C, rfl, hl, hb⟩
      obtain ⟨a1, c1, rfl⟩ := own_shape hl.val
      obtain ⟨a2, c2, rfl⟩ := own_shape hl.cha
      have hb2 := bthen HG.out.2 hb
      have hbx := H0.out.2.2.1.below hb2
      obtain ⟨q1, q2, q3, q4⟩ := pair_cells hbx
      have hr : w.heap.size < wr.heap.size := Nat.lt_of_lt_of_le H0.out.2.2.2 HG.out.2.size
      have HF := Lib.hid (And.intro ((law_box hl hr).mono (Nat.le_of_lt hr)) (below_box (wA := wA) (bthen H0.out.2.1 hb2) (Nat.le_refl _) (u := .slice a1 (lvT 1 (loR j j) j).length c1) (v := .slice a2 (lvT 1 (loR j j) j).length c2)))
      clear hl hb hb2 hbx hr
      go_wp2_with fail
      refine bodyPost_ret (v := .agg #[.slice a1 _ c1, .slice a2 _ c2]) (by simp [results, Tryz.results24, go_sem, *]) rfl ⟨_, _, rfl, HF.out.1, HF.out.2⟩
end Go.Proofs.YtlckamnadddlmaaGreatDoor
/- The counts of lists without long runs: the reference's. -/
namespace Go.Proofs.YtlckamnadddlmaaGreatDoor
open Go.RowKit
set_option linter.unusedVariables false

def lrI (q i : Nat) : List Int := (List.range (q + 1)).map fun k => ((lastR q i k : Nat) : Int)
theorem lrI_at {q i k : Nat} (h : k ≤ q) : (lrI q i).getD k 0 = ((lastR q i k : Nat) : Int) := by simp [lrI, List.getD, show k < q + 1 by omega]
theorem lrI_len (q i : Nat) : (lrI q i).length = q + 1 := by simp [lrI]
/-- The next counts after k rounds. -/
def nxF (q i k t : Nat) : Nat := if t = 1 then sum1 (lastR q i) k else if 2 ≤ t ∧ t ≤ k + 1 ∧ t ≤ q then lastR q i (t - 1) else 0
def nxI (q i k : Nat) : List Int := (List.range (q + 1)).map fun t => ((nxF q i k t : Nat) : Int)
theorem nxI_len (q i k : Nat) : (nxI q i k).length = q + 1 := by simp [nxI]
theorem nxI_at {q i k t : Nat} (h : t ≤ q) : (nxI q i k).getD t 0 = ((nxF q i k t : Nat) : Int) := by simp [nxI, List.getD, show t < q + 1 by omega]
theorem list_eq {xs ys : List Int} (hl : xs.length = ys.length) (h : ∀ i, i < xs.length → xs.getD i 0 = ys.getD i 0) : xs = ys := by
  refine List.ext_getElem hl fun i h1 h2 => ?_
  have := h i h1
  simpa [List.getD, h1, h2] using this
theorem getD_setI (xs : List Int) (i : Nat) (v : Int) (j : Nat) (hi : i < xs.length) : (xs.set i v).getD j 0 = if j = i then v else xs.getD j 0 := by
  by_cases e : j = i
  · subst e; simp [List.getD, hi]
  · rw [if_neg e]; simp [List.getD, Ne.symm e]
theorem lr_start (q : Nat) (hq : 1 ≤ q) : ((List.replicate (q + 1) (0 : Int)).set 1 2) = lrI q 0 := by
  refine list_eq (by simp [lrI]) fun t ht => ?_
  rw [List.length_set, List.length_replicate] at ht
  rw [getD_setI _ _ _ _ (by simp; omega), lrI_at (by omega), lastR_start q t hq]
  by_cases e : t = 1
  · rw [if_pos e, if_pos e]; rfl
  · rw [if_neg e, if_neg e]; simp [List.getD, ht]
theorem nx_start (q i : Nat) : List.replicate (q + 1) (0 : Int) = nxI q i 0 := by
  refine list_eq (by simp [nxI]) fun t ht => ?_
  rw [List.length_replicate] at ht
  rw [nxI_at (by omega)]
  unfold nxF
  by_cases e : t = 1
  · rw [if_pos e]; simp [List.getD, ht, sum1]
  · rw [if_neg e, if_neg (by omega)]; simp [List.getD, ht]
theorem nx_one (q i k : Nat) (hk : k < q) (hlast : ¬ k + 1 < q) : (nxI q i k).set 1 (((sum1 (lastR q i) (k + 1) : Nat) : Int)) = nxI q i (k + 1) := by
  refine list_eq (by simp [nxI]) fun t ht => ?_
  rw [List.length_set, nxI_len] at ht
  rw [getD_setI _ _ _ _ (by rw [nxI_len]; omega), nxI_at (by omega), nxI_at (by omega)]
  unfold nxF
  by_cases e : t = 1
  · rw [if_pos e, if_pos e]
  · rw [if_neg e, if_neg e, if_neg e]
    by_cases h : 2 ≤ t ∧ t ≤ k + 1 ∧ t ≤ q
    · rw [if_pos h, if_pos (by omega)]
    · rw [if_neg h, if_neg (by omega)]
theorem nx_two (q i k : Nat) (hk : k + 1 < q) : ((nxI q i k).set 1 (((sum1 (lastR q i) (k + 1) : Nat) : Int))).set (k + 2) ((lastR q i (k + 1) : Nat) : Int) = nxI q i (k + 1) := by
  refine list_eq (by simp [nxI]) fun t ht => ?_
  rw [List.length_set, List.length_set, nxI_len] at ht
  rw [getD_setI _ _ _ _ (by rw [List.length_set, nxI_len]; omega), getD_setI _ _ _ _ (by rw [nxI_len]; omega), nxI_at (by omega), nxI_at (by omega)]
  unfold nxF
  by_cases e : t = k + 2
  · rw [if_pos e, if_neg (by omega), if_pos (by omega), show t - 1 = k + 1 by omega]
  · rw [if_neg e]
    by_cases e1 : t = 1
    · rw [if_pos e1, if_pos e1]
    · rw [if_neg e1, if_neg e1, if_neg e1]
      by_cases h : 2 ≤ t ∧ t ≤ k + 1 ∧ t ≤ q
      · rw [if_pos h, if_pos (by omega)]
      · rw [if_neg h, if_neg (by omega)]
theorem nx_end (q i : Nat) (hq : 1 ≤ q) : nxI q i q = lrI q (i + 1) := by
  refine list_eq (by simp [nxI, lrI]) fun t ht => ?_
  rw [nxI_len] at ht
  rw [nxI_at (by omega), lrI_at (by omega)]
  unfold nxF
  by_cases e : t = 1
  · rw [if_pos e, e, lastR_one q i hq, lastR_sum]
  · rw [if_neg e]
    by_cases e0 : t = 0
    · subst e0; rw [if_neg (by omega)]; unfold lastR; rw [if_neg (by omega)]
    · obtain ⟨s, rfl⟩ : ∃ s, t = s + 1 := ⟨t - 1, by omega⟩
      rw [lastR_next q i s (by omega), if_pos (by omega), if_pos (by omega), Nat.add_sub_cancel]
theorem lastR_small (q i k : Nat) (hi : i + 2 ≤ 51) : lastR q i k ≤ 2251799813685248 := Nat.le_trans (lastR_le q i k) (Nat.pow_le_pow_right (show 0 < 2 by omega) hi)
theorem sum1_part (h : Nat → Nat) : ∀ n m, m ≤ n → sum1 h m ≤ sum1 h n
  | 0, m, e => by obtain rfl : m = 0 := by omega
                  exact Nat.le_refl _
  | n + 1, m, e => by
    by_cases e1 : m = n + 1
    · subst e1; exact Nat.le_refl _
    · have := sum1_part h n m (by omega)
      rw [sum1]; omega
theorem sumR_small (q i m : Nat) (hi : i + 1 ≤ 50) (hm : m ≤ q) : sum1 (lastR q i) m ≤ 2251799813685248 := by
  have h1 := sum1_part (lastR q i) q m hm
  have h2 := wy_small q (i + 1) hi
  rw [lastR_sum] at h1
  omega
/-- A slice of numbers, all of its row, owned since w0. -/
def OwnI (w0 wr : World) (g n : Nat) (xs : List Int) : Prop := wr.ownsRow w0.heap.size 2 1 (.slice (some ⟨g, 0, none⟩) n n) n (xs.map (Value.int .i64)) ∧ Below w0.heap.size w0 wr
theorem OwnI.cell {w0 wr : World} {g n : Nat} {xs : List Int} (h : OwnI w0 wr g n xs) {j : Nat} (hj : j < n) : wr.cell? ⟨g, j, none⟩ = some (.int .i64 (xs.getD j 0)) := by
  obtain ⟨b, off, e, c⟩ := (IsInts.of_own h.1).at hj
  simp only [Option.some.injEq, Addr.mk.injEq] at e
  obtain ⟨rfl, rfl, _⟩ := e
  rwa [Nat.zero_add] at c
theorem OwnI.frozen {w0 wr : World} {g n : Nat} {xs : List Int} (h : OwnI w0 wr g n xs) (j : Nat) : wr.frozen? ⟨g, j, none⟩ = false := h.1.frozenAt j
theorem OwnI.set {w0 wr : World} {g n : Nat} {xs : List Int} (h : OwnI w0 wr g n xs) (j : Nat) (v : Int) : OwnI w0 (wr.setCell ⟨g, j, none⟩ (.int .i64 v)) g n (xs.set j v) := by
  have hs := h.1.stored j (.int .i64 v)
  rw [← List.map_set] at hs
  exact ⟨hs.1, h.2.grown hs.2 h.2.size (fun k hk => (h.1.lt k (by simpa [Value.ownBlock] using hk)).1)⟩
theorem OwnI.drew {w0 wr : World} {g n : Nat} {xs : List Int} (h : OwnI w0 wr g n xs) : OwnI w0 wr.drew g n xs := ⟨h.1.drew, h.2.drew⟩
theorem OwnI.base {w w0 wr : World} {g n : Nat} {xs : List Int} (hb : Below w.heap.size w w0) (h : OwnI w0 wr g n xs) : OwnI w wr g n xs := ⟨own_mono h.1 hb.size, bthen hb h.2⟩
theorem OwnI.after {w0 wr w' : World} {g n : Nat} {xs : List Int} (h : OwnI w0 wr g n xs) (hb : Below wr.heap.size wr w') : OwnI w0 w' g n xs := ⟨own_below h.1 hb, bthen h.2 hb⟩
theorem OwnI.lt {w0 wr : World} {g n : Nat} {xs : List Int} (h : OwnI w0 wr g n xs) : w0.heap.size ≤ g ∧ g < wr.heap.size := h.1.lt g rfl
end Go.Proofs.YtlckamnadddlmaaGreatDoor

import Derived.Test.YtddmglgogjaajaaLong1
import Derived.BigRegion
/- The counts of lists without long runs: the reference's. -/
namespace Go.Proofs.Ytddmglgogjaajaa
open Go.RowKit
set_option linter.unusedVariables false

def lrI (q i : Nat) : List Int := (List.range (q + 1)).map fun k => ((lastR q i k : Nat) : Int)
theorem lrI_at {q i k : Nat} (h : k ≤ q) : (lrI q i).getD k 0 = ((lastR q i k : Nat) : Int) := by simp [lrI, List.getD, show k < q + 1 by omega]
theorem lrI_len (q i : Nat) : (lrI q i).length = q + 1 := by simp [lrI]
/-- The next counts after k rounds. -/
def nxF (q i k t : Nat) : Nat := if t = 1 then sum1 (lastR q i) k else if 2 ≤ t ∧ t ≤ k + 1 ∧ t ≤ q then lastR q i (t - 1) else 0
def nxI (q i k : Nat) : List Int := (List.range (q + 1)).map fun t => ((nxF q i k t : Nat) : Int)
theorem nxI_len (q i k : Nat) : (nxI q i k).length = q + 1 := by simp [nxI]
theorem nxI_at {q i k t : Nat} (h : t ≤ q) : (nxI q i k).getD t 0 = ((nxF q i k t : Nat) : Int) := by simp [nxI, List.getD, show t < q + 1 by omega]
theorem list_eq {xs ys : List Int} (hl : xs.length = ys.length) (h : ∀ i, i < xs.length → xs.getD i 0 = ys.getD i 0) : xs = ys := by
  refine List.ext_getElem hl fun i h1 h2 => ?_
  have := h i h1
  simpa [List.getD, h1, h2] using this
theorem getD_setI (xs : List Int) (i : Nat) (v : Int) (j : Nat) (hi : i < xs.length) : (xs.set i v).getD j 0 = if j = i then v else xs.getD j 0 := by
  by_cases e : j = i
  · subst e; simp [List.getD, hi]
  · rw [if_neg e]; simp [List.getD, Ne.symm e]
theorem lr_start (q : Nat) (hq : 1 ≤ q) : ((List.replicate (q + 1) (0 : Int)).set 1 2) = lrI q 0 := by
  refine list_eq (by simp [lrI]) fun t ht => ?_
  rw [List.length_set, List.length_replicate] at ht
  rw [getD_setI _ _ _ _ (by simp; omega), lrI_at (by omega), lastR_start q t hq]
  by_cases e : t = 1
  · rw [if_pos e, if_pos e]; rfl
  · rw [if_neg e, if_neg e]; simp [List.getD, ht]
theorem nx_start (q i : Nat) : List.replicate (q + 1) (0 : Int) = nxI q i 0 := by
  refine list_eq (by simp [nxI]) fun t ht => ?_
  rw [List.length_replicate] at ht
  rw [nxI_at (by omega)]
  unfold nxF
  by_cases e : t = 1
  · rw [if_pos e]; simp [List.getD, ht, sum1]
  · rw [if_neg e, if_neg (by omega)]; simp [List.getD, ht]
theorem nx_one (q i k : Nat) (hk : k < q) (hlast : ¬ k + 1 < q) : (nxI q i k).set 1 (((sum1 (lastR q i) (k + 1) : Nat) : Int)) = nxI q i (k + 1) := by
  refine list_eq (by simp [nxI]) fun t ht => ?_
  rw [List.length_set, nxI_len] at ht
  rw [getD_setI _ _ _ _ (by rw [nxI_len]; omega), nxI_at (by omega), nxI_at (by omega)]
  unfold nxF
  by_cases e : t = 1
  · rw [if_pos e, if_pos e]
  · rw [if_neg e, if_neg e, if_neg e]
    by_cases h : 2 ≤ t ∧ t ≤ k + 1 ∧ t ≤ q
    · rw [if_pos h, if_pos (by omega)]
    · rw [if_neg h, if_neg (by omega)]
theorem nx_two (q i k : Nat) (hk : k + 1 < q) : ((nxI q i k).set 1 (((sum1 (lastR q i) (k + 1) : Nat) : Int))).set (k + 2) ((lastR q i (k + 1) : Nat) : Int) = nxI q i (k + 1) := by
  refine list_eq (by simp [nxI]) fun t ht => ?_
  rw [List.length_set, List.length_set, nxI_len] at ht
  rw [getD_setI _ _ _ _ (by rw [List.length_set, nxI_len]; omega), getD_setI _ _ _ _ (by rw [nxI_len]; omega), nxI_at (by omega), nxI_at (by omega)]
  unfold nxF
  by_cases e : t = k + 2
  · rw [if_pos e, if_neg (by omega), if_pos (by omega), show t - 1 = k + 1 by omega]
  · rw [if_neg e]
    by_cases e1 : t = 1
    · rw [if_pos e1, if_pos e1]
    · rw [if_neg e1, if_neg e1, if_neg e1]
      by_cases h : 2 ≤ t ∧ t ≤ k + 1 ∧ t ≤ q
      · rw [if_pos h, if_pos (by omega)]
      · rw [if_neg h, if_neg (by omega)]
theorem nx_end (q i : Nat) (hq : 1 ≤ q) : nxI q i q = lrI q (i + 1) := by
  refine list_eq (by simp [nxI, lrI]) fun t ht => ?_
  rw [nxI_len] at ht
  rw [nxI_at (by omega), lrI_at (by omega)]
  unfold nxF
  by_cases e : t = 1
  · rw [if_pos e, e, lastR_one q i hq, lastR_sum]
  · rw [if_neg e]
    by_cases e0 : t = 0
    · subst e0; rw [if_neg (by omega)]; unfold lastR; rw [if_neg (by omega)]
    · obtain ⟨s, rfl⟩ : ∃ s, t = s + 1 := ⟨t - 1, by omega⟩
      rw [lastR_next q i s (by omega), if_pos (by omega), if_pos (by omega), Nat.add_sub_cancel]
theorem lastR_small (q i k : Nat) (hi : i + 2 ≤ 51) : lastR q i k ≤ 2251799813685248 := Nat.le_trans (lastR_le q i k) (Nat.pow_le_pow_right (show 0 < 2 by omega) hi)
theorem sum1_part (h : Nat → Nat) : ∀ n m, m ≤ n → sum1 h m ≤ sum1 h n
  | 0, m, e => by obtain rfl : m = 0 := by omega
                  exact Nat.le_refl _
  | n + 1, m, e => by
    by_cases e1 : m = n + 1
    · subst e1; exact Nat.le_refl _
    · have := sum1_part h n m (by omega)
      rw [sum1]; omega
theorem sumR_small (q i m : Nat) (hi : i + 1 ≤ 50) (hm : m ≤ q) : sum1 (lastR q i) m ≤ 2251799813685248 := by
  have h1 := sum1_part (lastR q i) q m hm
  have h2 := wy_small q (i + 1) hi
  rw [lastR_sum] at h1
  omega
/-- A slice of numbers, all of its row, owned since w0. -/
def OwnI (w0 wr : World) (g n : Nat) (xs : List Int) : Prop := wr.ownsRow w0.heap.size 2 1 (.slice (some ⟨g, 0, none⟩) n n) n (xs.map (Value.int .i64)) ∧ Below w0.heap.size w0 wr
theorem OwnI.cell {w0 wr : World} {g n : Nat} {xs : List Int} (h : OwnI w0 wr g n xs) {j : Nat} (hj : j < n) : wr.cell? ⟨g, j, none⟩ = some (.int .i64 (xs.getD j 0)) := by
  obtain ⟨b, off, e, c⟩ := (IsInts.of_own h.1).at hj
  simp only [Option.some.injEq, Addr.mk.injEq] at e
  obtain ⟨rfl, rfl, _⟩ := e
  rwa [Nat.zero_add] at c
theorem OwnI.frozen {w0 wr : World} {g n : Nat} {xs : List Int} (h : OwnI w0 wr g n xs) (j : Nat) : wr.frozen? ⟨g, j, none⟩ = false := h.1.frozenAt j
theorem OwnI.set {w0 wr : World} {g n : Nat} {xs : List Int} (h : OwnI w0 wr g n xs) (j : Nat) (v : Int) : OwnI w0 (wr.setCell ⟨g, j, none⟩ (.int .i64 v)) g n (xs.set j v) := by
  have hs := h.1.stored j (.int .i64 v)
  rw [← List.map_set] at hs
  exact ⟨hs.1, h.2.grown hs.2 h.2.size (fun k hk => (h.1.lt k (by simpa [Value.ownBlock] using hk)).1)⟩
theorem OwnI.drew {w0 wr : World} {g n : Nat} {xs : List Int} (h : OwnI w0 wr g n xs) : OwnI w0 wr.drew g n xs := ⟨h.1.drew, h.2.drew⟩
theorem OwnI.base {w w0 wr : World} {g n : Nat} {xs : List Int} (hb : Below w.heap.size w w0) (h : OwnI w0 wr g n xs) : OwnI w wr g n xs := ⟨own_mono h.1 hb.size, bthen hb h.2⟩
theorem OwnI.after {w0 wr w' : World} {g n : Nat} {xs : List Int} (h : OwnI w0 wr g n xs) (hb : Below wr.heap.size wr w') : OwnI w0 w' g n xs := ⟨own_below h.1 hb, bthen h.2 hb⟩
theorem OwnI.lt {w0 wr : World} {g n : Nat} {xs : List Int} (h : OwnI w0 wr g n xs) : w0.heap.size ≤ g ∧ g < wr.heap.size := h.1.lt g rfl
set_option maxRecDepth 100000 in
set_option maxHeartbeats 3200000 in
theorem l05UpTo_any (n q : Nat) (w : World) (hn : n ≤ 50) (hn1 : 1 ≤ n) (hq : 1 ≤ q) (hqn : q ≤ n) : Calls Try.prog 135 #[.int .i64 (n : Nat), .int .i64 (q : Nat)] w (Ret w (.int .i64 (2 * ((wy q n : Nat) : Int)))) := by
  obtain ⟨i0, hi, hz0, hz1, hz2⟩ := info_parts Try.infoI
  have hq0 : (0:Int) ≤ (q:Int) := by omega
  have hq1 : (1:Int) < (q:Int) + 1 := by omega
  have HZ := Lib.hid (zeros_toList (q + 1))
  have HST := Lib.hid (lr_start q hq)
  go_enter Try.func135, Try.ntmps135
  go_wp2_with (at_make; refine wpList_make_full _ rfl _ _ 30 rfl w.heap.size 2 i0 (.int .i64 0) 1 Try.underlying30 hi hz0 hz1 _ _ _ _ (q + 1) rfl rfl ?cL ?cC ?c1 ?c2 ?c3 ?_)
  case cL => push_cast; rfl
  case cC => push_cast; rfl
  case c1 => rw [hz2]; omega
  case c2 => unfold maxLen; omega
  case c3 => exact Nat.le_refl _
  intro w1 hown hgrow
  have hO : OwnI w w1 w.heap.size (q + 1) (List.replicate (q + 1) 0) := ⟨by rw [HZ.out] at hown; exact hown, (Below.refl _ _).grown hgrow (Nat.le_refl _) (by simp)⟩
  have c1 := hO.cell (show 1 < q + 1 by omega)
  have f1 := hO.frozen 1
  have hO2 := hO.set 1 2
  rw [HST.out] at hO2
  have HO := Lib.hid hO2
  clear hown hgrow hO hO2
  obtain ⟨g0, hg0⟩ : ∃ g, w.heap.size = g := ⟨_, rfl⟩
  rw [hg0] at HO c1 f1 ⊢
  clear hg0
  go_wp2
  go_loopw [6, 5] (fun v6 v5 wr => ∃ (i g : Nat), i + 1 ≤ n ∧ v6 = .int .i64 ((i + 1 : Nat) : Int) ∧ v5 = .slice (some ⟨g, 0, none⟩) (q + 1) (q + 1) ∧ Hid (OwnI w wr g (q + 1) (lrI q i))) (fun v6 _ _ => n + 1 - (intOf v6).toNat)
  case atStart => exact ⟨0, g0, by omega, rfl, rfl, HO⟩
  case round =>
    clear HO c1 f1
    obtain ⟨i, g, hin, rfl, rfl, HO⟩ := hrel
    rw [show ((i + 1 : Nat) : Int) = (i : Int) + 1 by omega]
    by_cases hlt : i + 1 < n
    · have hi0 : (0:Int) ≤ (i:Int) := by omega
      have hii : (i:Int) + 1 < (n:Int) := by omega
      obtain ⟨wa, hwa⟩ : ∃ wa : World, wa = wr := ⟨_, rfl⟩
      subst hwa
      go_wp2_with (at_make; refine wpList_make_full _ rfl _ _ 30 rfl wa.heap.size 2 i0 (.int .i64 0) 1 Try.underlying30 hi hz0 hz1 _ _ _ _ (q + 1) rfl rfl ?cL ?cC ?c1 ?c2 ?c3 ?_)
      case cL => push_cast; rfl
      case cC => push_cast; rfl
      case c1 => rw [hz2]; omega
      case c2 => unfold maxLen; omega
      case c3 => exact Nat.le_refl _
      intro w2 hown hgrow
      have HX := Lib.hid (show OwnI wa w2 wa.heap.size (q + 1) (nxI q i 0) from ⟨by rw [HZ.out, nx_start q i] at hown; exact hown, (Below.refl _ _).grown hgrow (Nat.le_refl _) (by simp)⟩)
      clear hown hgrow
      have hgl := HO.out.lt.2
      obtain ⟨g2, hg2⟩ : ∃ g2, wa.heap.size = g2 := ⟨_, rfl⟩
      rw [hg2] at HX hgl ⊢
      have hgne : g ≠ g2 := by omega
      have hgne2 : g2 ≠ g := by omega
      clear hg2
      go_wp2
      go_loopw [8] (fun v8 wx => ∃ k : Nat, k ≤ q ∧ v8 = .int .i64 ((k + 1 : Nat) : Int) ∧ Hid (OwnI wa wx g2 (q + 1) (nxI q i k))) (fun v8 _ => q + 1 - (intOf v8).toNat)
      case atStart => exact ⟨0, Nat.zero_le _, rfl, HX⟩
      case round =>
        clear HX
        obtain ⟨k, hk, rfl, HX⟩ := hrel
        rw [show ((k + 1 : Nat) : Int) = (k : Int) + 1 by omega]
        by_cases hkq : k < q
        · have hk0 : (0:Int) ≤ (k:Int) := by omega
          have hk1 : (0:Int) ≤ (k:Int) + 1 := by omega
          have hki : (k:Int) + 1 ≤ (q:Int) := by omega
          have hki2 : (k:Int) + 1 < (q:Int) + 1 := by omega
          have c1 := HX.out.cell (show 1 < q + 1 by omega)
          have f1 := HX.out.frozen 1
          have c2 := (HO.out.after HX.out.2).cell (show k + 1 < q + 1 by omega)
          rw [nxI_at (by omega), show nxF q i k 1 = sum1 (lastR q i) k by unfold nxF; rw [if_pos rfl]] at c1
          rw [lrI_at (by omega)] at c2
          have hb1 := sumR_small q i k (by omega) (by omega)
          have hb2 := sumR_small q i (k + 1) (by omega) (by omega)
          have hb3 := lastR_small q i (k + 1) (by omega)
          have hst : sum1 (lastR q i) (k + 1) = sum1 (lastR q i) k + lastR q i (k + 1) := rfl
          have hone := nx_one q i k hkq
          have htwo := nx_two q i k
          obtain ⟨X, hX⟩ : ∃ X, sum1 (lastR q i) k = X := ⟨_, rfl⟩
          obtain ⟨y, hy⟩ : ∃ y, lastR q i (k + 1) = y := ⟨_, rfl⟩
          rw [hX] at c1 hb1 hst
          rw [hy] at c2 hb3 hst htwo
          have HYY := Lib.hid hy
          rw [hst] at hone htwo
          have e1 : (((X + y : Nat)) : Int) = (X : Int) + (y : Int) := by omega
          rw [e1] at hone htwo
          have hww : IntKind.i64.wrap ((X : Int) + (y : Int)) = (X : Int) + (y : Int) := IntWalk.i64_in _ (by omega)
          have HM := Lib.hid ((HX.out.set 1 ((X : Int) + (y : Int))).drew)
          have HNX := Lib.hid (And.intro hone htwo)
          clear hone htwo hst hX hy hb2 e1
          go_wp2_with fail
          go_region
          obtain ⟨wm, hwm⟩ : ∃ w', (wr.setCell ⟨g2, 1, none⟩ (.int .i64 ((X : Int) + (y : Int)))).drew = w' := ⟨_, rfl⟩
          rw [hwm] at HM ⊢
          clear hwm c1 c2 f1 HX
          by_cases hkl : k + 1 < q
          · have hkl1 : (k:Int) + 1 < (q:Int) := by omega
            have hkl2 : (k:Int) + 1 + 1 < (q:Int) + 1 := by omega
            have hkl0 : (0:Int) ≤ (k:Int) + 1 + 1 := by omega
            have d1 := HM.out.cell (show k + 1 + 1 < q + 1 by omega)
            have f2 := HM.out.frozen (k + 1 + 1)
            have d2 := (HO.out.after HM.out.2).cell (show k + 1 < q + 1 by omega)
            rw [getD_setI _ _ _ _ (by rw [nxI_len]; omega), if_neg (by omega), nxI_at (by omega), show nxF q i k (k + 1 + 1) = 0 by unfold nxF; rw [if_neg (by omega), if_neg (by omega)]] at d1
            rw [lrI_at (by omega), HYY.out] at d2
            have HF := Lib.hid (show OwnI wa (wm.setCell ⟨g2, k + 1 + 1, none⟩ (.int .i64 (y : Int))).drew g2 (q + 1) (nxI q i (k + 1)) by
              have h := (HM.out.set (k + 1 + 1) (y : Int)).drew
              rw [HNX.out.2 hkl] at h
              exact h)
            go_wp2_with fail
            go_region
            go_wp2
            go_roundw
            case rel => exact ⟨k + 1, by omega, by go_num, HF⟩
            case measure => simp [intOf]; omega
          · have hkl1 : ¬ (k:Int) + 1 < (q:Int) := by omega
            have HF := Lib.hid (by have h := HM.out; rw [HNX.out.1 hkl] at h; exact h)
            go_wp2
            go_roundw
            case rel => exact ⟨k + 1, by omega, by go_num, HF⟩
            case measure => simp [intOf]; omega
        · obtain rfl : k = q := by omega
          have hkq2 : ¬ (k:Int) + 1 ≤ (k:Int) := by omega
          have HX2 := Lib.hid (OwnI.base HO.out.2 HX.out)
          go_wp2
          go_roundw
          case rel => exact ⟨i + 1, g2, by omega, by go_num, by push_cast; rfl, Lib.hid (by rw [← nx_end k i hq]; exact HX2.out)⟩
          case measure => simp [intOf]; omega
    · obtain rfl : n = i + 1 := by omega
      have hin2 : ¬ (i:Int) + 1 < ((i + 1 : Nat) : Int) := by omega
      go_wp2
      go_loopw [10, 9] (fun v10 v9 wx => ∃ (k s : Nat), k ≤ q ∧ v10 = .int .i64 ((k + 1 : Nat) : Int) ∧ v9 = .int .i64 (s : Nat) ∧ s ≤ 2251799813685248 ∧ Hid (sum1 (lastR q i) k = s) ∧ wx = wr) (fun v10 _ _ => q + 1 - (intOf v10).toNat)
      case atStart => exact ⟨0, 0, Nat.zero_le _, rfl, rfl, by omega, Lib.hid rfl, rfl⟩
      case round =>
        obtain ⟨k, s, hk, rfl, rfl, hs, HS, rfl⟩ := hrel
        rw [show ((k + 1 : Nat) : Int) = (k : Int) + 1 by omega]
        by_cases hkq : k < q
        · have hk1 : (0:Int) ≤ (k:Int) + 1 := by omega
          have hki : (k:Int) + 1 ≤ (q:Int) := by omega
          have hki2 : (k:Int) + 1 < (q:Int) + 1 := by omega
          have c2 := HO.out.cell (show k + 1 < q + 1 by omega)
          rw [lrI_at (by omega)] at c2
          have hst : sum1 (lastR q i) (k + 1) = s + lastR q i (k + 1) := by rw [sum1, HS.out]
          have hb2 := sumR_small q i (k + 1) (by omega) (by omega)
          obtain ⟨y, hy⟩ : ∃ y, lastR q i (k + 1) = y := ⟨_, rfl⟩
          rw [hy] at c2 hst
          rw [hst] at hb2
          have HS2 := Lib.hid hst
          clear hst hy
          go_wp2
          go_roundw
          case rel => exact ⟨k + 1, s + y, by omega, by go_num, by go_num, hb2, HS2, trivial⟩
          case measure => simp [intOf]; omega
        · obtain rfl : k = q := by omega
          have hkq2 : ¬ (k:Int) + 1 ≤ (k:Int) := by omega
          have HS2 := Lib.hid (show (s : Int) = 2 * ((wy k (i + 1) : Nat) : Int) by rw [← HS.out, lastR_sum]; push_cast; rfl)
          go_wp2
          go_ret
          exact ⟨by rw [← HS2.out]; rfl, HO.out.2⟩
end Go.Proofs.Ytddmglgogjaajaa

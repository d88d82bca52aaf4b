import Derived.Test.YtpineiocjaajnaaDcV
import Derived.Test.YtpineiocjaajnaaOwnX
import Derived.Test.YtpineiocjaajnaaFrac
import Derived.Test.YtpineiocjaajnaaChoo
/- The cost of a die: the reference, and the law. Condition: none (other numbers than 1 to 32 are told apart). -/
namespace Go.Proofs.Ytpineiocjaajnaa
open Go.RowKit
set_option linter.unusedVariables false

/-- The first remainders. -/
def dcLs (n k : Nat) : List Int := (List.range k).map fun j => ((dcR n j : Nat) : Int)
theorem dcLs_len (n k : Nat) : (dcLs n k).length = k := by simp [dcLs]
theorem dcLs_at {n k j : Nat} (h : j < k) : (dcLs n k).getD j 0 = ((dcR n j : Nat) : Int) := by simp [dcLs, List.getD, h]
theorem dcLs_push (n k : Nat) : dcLs n k ++ [((dcR n k : Nat) : Int)] = dcLs n (k + 1) := by simp [dcLs, List.range_succ]
theorem GrowAt.oneE (w : World) (E : TypeId) (u : Value) : GrowAt w (w.alloc (.cells #[u] E)) E (.slice (some ⟨w.heap.size, 0, none⟩) 1 1) 1 [u] :=
  ⟨⟨rfl, Or.inr ⟨w.heap.size, 1, #[u], rfl, Nat.le_refl _, heap_at_new w _, by simp, by simp [maxLen], by simp, by simp⟩⟩, (Below.refl _ w).alloc (Nat.le_refl _) _⟩
def lenV : Value → Nat
  | .slice _ n _ => n
  | _ => 0
/-- What the reference's sums are made of. -/
structure DcH (n B L : Nat) : Prop where
  t : ∀ m, m ≤ B → dcT n B m < 2 ^ 60
  p : ∀ m, m ≤ L → dcP n B L m < 2 ^ 60
  s1 : (mkRat ((dcT n B B : Nat) : Int) (2 ^ B)).num.natAbs ≤ 1000000000000000000 ∧ (mkRat ((dcT n B B : Nat) : Int) (2 ^ B)).den ≤ 1000000000000000000
  s2 : (mkRat ((dcP n B L L : Nat) : Int) ((2 ^ L - 1) * 2 ^ B)).num.natAbs ≤ 1000000000000000000 ∧ (mkRat ((dcP n B L L : Nat) : Int) ((2 ^ L - 1) * 2 ^ B)).den ≤ 1000000000000000000
  d : (2 ^ L - 1) * 2 ^ B < 2 ^ 60
  eq : mkRat ((dcT n B B : Nat) : Int) (2 ^ B) + mkRat ((dcP n B L L : Nat) : Int) ((2 ^ L - 1) * 2 ^ B) = dcS n B (B + L) + dcA n B (B + L) * mkRat ((2 ^ L : Nat) : Int) (2 ^ L - 1)
theorem dcH {n : Nat} (h0 : 0 < n) (h1 : n ≤ 32) : DcH n (dcB n) (dcK n - dcB n) := by
  have h := dc_agree n (by omega) h0
  have hk := (dcN h0 h1).bk
  unfold dcAgree at h
  simp only [Bool.and_eq_true, List.all_eq_true, List.mem_range, decide_eq_true_eq] at h
  obtain ⟨_, b, c, _, _, _, e, f, g, i⟩ := h
  unfold small60 at e f
  simp only [Bool.and_eq_true, decide_eq_true_eq] at e f
  refine ⟨fun m hm => b m (by omega), fun m hm => c m (by omega), e, f, g, ?_⟩
  rw [show dcB n + (dcK n - dcB n) = dcK n by omega]
  exact i
set_option maxRecDepth 100000 in
set_option maxHeartbeats 1600000 in
theorem specDiceCost_any (n0 : Int) (w : World) : Calls Try.prog 15 #[.int .i64 n0] w fun e w' => e = .returned (dcV n0) ∧ Below w.heap.size w w' := by
  have hA : Below w.heap.size w (w.alloc (.cells #[.int .i64 0, .int .i64 0] 33)) := (Below.refl _ w).alloc (Nat.le_refl _) _
  have H0 := Lib.hid (And.intro (C2.new w 33 (.int .i64 0) (.int .i64 0)) hA)
  clear hA
  cases hr : inR n0 1 32 with
  | false =>
    have HR := Lib.hid (And.intro hr (show dcV n0 = .tuple #[.agg #[.int .i64 0, .int .i64 0], .bool false] by unfold dcV; rw [hr]; rfl))
    clear hr
    go_enter Try.func15, Try.ntmps15
    go_wp2_with fail
    refine (l00InQ _ _ _ _).mono ?_
    rintro e w' ⟨rfl, rfl⟩
    rw [HR.out.1]
    obtain ⟨wA, hwA⟩ : ∃ w', w.alloc (.cells #[.int .i64 0, .int .i64 0] 33) = w' := ⟨_, rfl⟩
    rw [hwA] at H0 ⊢
    clear hwA
    obtain ⟨y0, y1, y2, y3, y4⟩ := H0.out.1
    go_wp2_with fail
    refine bodyPost_ret (v := .tuple #[.agg #[.int .i64 0, .int .i64 0], .bool false]) (by simp [results, Try.results15, go_sem, *]) rfl ⟨by rw [HR.out.2], ?_⟩
    exact below_2c H0.out.2 (by omega) _ _
  | true =>
    have HR := Lib.hid hr
    simp only [inR, Bool.and_eq_true, decide_eq_true_eq] at hr
    obtain ⟨n, rfl⟩ := Int.eq_ofNat_of_zero_le (show 0 ≤ n0 by omega)
    have h0 : 0 < n := by omega
    have hn : n ≤ 32 := by omega
    have hN := dcN h0 hn
    have hH := dcH h0 hn
    have hV : dcV (n : Int) = fracV (dcS n (dcB n) (dcK n) + dcA n (dcB n) (dcK n) * mkRat ((2 ^ (dcK n - dcB n) : Nat) : Int) (2 ^ (dcK n - dcB n) - 1)) := by unfold dcV; rw [HR.out]; rfl
    obtain ⟨B, hB⟩ : ∃ B, dcB n = B := ⟨_, rfl⟩
    obtain ⟨K, hK⟩ : ∃ K, dcK n = K := ⟨_, rfl⟩
    rw [hB, hK] at hN hH hV
    have hBK := hN.bk
    have hK32 := hN.k32
    obtain ⟨L, hL⟩ : ∃ L, K - B = L := ⟨_, rfl⟩
    rw [hL] at hV hH
    obtain rfl : K = B + L := by omega
    rw [← hH.eq] at hV
    obtain ⟨p, q, b', hform⟩ := fracV_dc (mkRat ((dcT n B B : Nat) : Int) (2 ^ B) + mkRat ((dcP n B L L : Nat) : Int) ((2 ^ L - 1) * 2 ^ B))
    rw [hform] at hV
    have HV := Lib.hid hV
    have HFO := Lib.hid hform
    have HHH := Lib.hid hH
    have HNN := Lib.hid hN
    clear hr hN hH hV hform hB hK hL
    have hL0 : 0 < L := by omega
    have n0' : ¬ (n : Int) = 0 := by omega
    have n0'' : ¬ (n : Int) = -1 := by omega
    have n00 : ¬ n = 0 := by omega
    have hz0 : (1 : Int) % (n : Int) = ((dcR n 0 : Nat) : Int) := by rfl
    have hz1 : (1 : Int).tmod (n : Int) = ((dcR n 0 : Nat) : Int) := by rw [Int.tmod_eq_emod_of_nonneg (by omega)]; rfl
    go_enter Try.func15, Try.ntmps15
    go_wp2_with fail
    refine (l00InQ _ _ _ _).mono ?_
    rintro e w' ⟨rfl, rfl⟩
    rw [HR.out]
    obtain ⟨wA, hwA⟩ : ∃ w', w.alloc (.cells #[.int .i64 0, .int .i64 0] 33) = w' := ⟨_, rfl⟩
    rw [hwA] at H0 ⊢
    clear hwA
    have HG0 := Lib.hid (show GrowAt wA (wA.alloc (.cells #[.int .i64 ((dcR n 0 : Nat) : Int)] 2)) 2 (.slice (some ⟨wA.heap.size, 0, none⟩) 1 1) 1 ((dcLs n 1).map (Value.int .i64)) from GrowAt.oneE wA 2 _)
    go_wp2_with fail
    go_loopw [4] (fun v4 wr => ∃ (k : Nat) (s : Option Addr) (c : Nat), k < B + L ∧ v4 = .slice s (k + 1) c ∧ Hid (GrowAt wA wr 2 (.slice s (k + 1) c) (k + 1) ((dcLs n (k + 1)).map (Value.int .i64)))) (fun v4 _ => 64 - lenV v4)
    case atStart => exact ⟨0, _, _, by omega, rfl, HG0⟩
    case round =>
      clear HG0
      obtain ⟨k, s, c, hk, rfl, HG⟩ := hrel
      have hlt := dcR_lt h0 k
      have hst := dcR_succ n k
      obtain ⟨g, off, rfl, cc⟩ := (IsInts.of_own HG.out.1).at (show k < k + 1 by omega)
      rw [dcLs_at (show k < k + 1 by omega)] at cc
      obtain ⟨r2, hr2⟩ : ∃ r2, dcR n (k + 1) = r2 := ⟨_, rfl⟩
      rw [hr2] at hst
      have HR2 := Lib.hid hr2
      obtain ⟨r, hr⟩ : ∃ r, dcR n k = r := ⟨_, rfl⟩
      rw [hr] at hlt hst cc
      have hmul : IntKind.i64.wrap (2 * (r : Int)) = 2 * (r : Int) := IntWalk.i64_in _ (by omega)
      have hmo : (2 * (r : Int)) % (n : Int) = (r2 : Int) := by rw [← hst, Int.natCast_emod, Int.natCast_mul]; rfl
      have hmo2 : (2 * (r : Int)).tmod (n : Int) = (r2 : Int) := by rw [Int.tmod_eq_emod_of_nonneg (by omega)]; exact hmo
      have hw1 : IntKind.i64.wrap (((k + 1 : Nat) : Int) - 1) = (k : Int) := by rw [IntWalk.i64_in _ (by omega)]; omega
      have hk0 : (0:Int) ≤ (k:Int) := by omega
      have hk1 : (k:Int) < ((k + 1 : Nat) : Int) := by omega
      clear hr2 hr hst
      go_wp2_with fail
      go_loopw [7] (fun v7 wx => ∃ t : Nat, t ≤ k + 1 ∧ v7 = .int .i64 (t : Nat) ∧ wx = wr ∧ Hid (∀ j, j < t → dcR n j ≠ r2)) (fun v7 _ => k + 2 - (intOf v7).toNat)
      case atStart => exact ⟨0, Nat.zero_le _, rfl, rfl, Lib.hid (fun j hj => absurd hj (Nat.not_lt_zero j))⟩
      case round =>
        obtain ⟨t, ht, rfl, rfl, HNE⟩ := hrel
        have ht0 : (0:Int) ≤ (t:Int) := by omega
        by_cases htk : t < k + 1
        · have hti : (t:Int) < ((k + 1 : Nat) : Int) := by omega
          have htl : t < k + 1 := htk
          obtain ⟨g', off', e5, c2⟩ := (IsInts.of_own HG.out.1).at htk
          simp only [Option.some.injEq, Addr.mk.injEq] at e5
          obtain ⟨rfl, rfl, _⟩ := e5
          rw [dcLs_at htk] at c2
          obtain ⟨u, hu⟩ : ∃ u, dcR n t = u := ⟨_, rfl⟩
          rw [hu] at c2
          by_cases he : u = r2
          · have HE := Lib.hid (show t = B ∧ k + 1 = B + L by
              have hkK : ¬ k + 1 < B + L := fun h => by
                have := HNN.out.new (k + 1) h t htk
                rw [hu, HR2.out] at this
                simp [he] at this
              have hK : k + 1 = B + L := by omega
              have hsame := HNN.out.same
              rw [← hK, HR2.out] at hsame
              refine ⟨?_, hK⟩
              rcases Nat.lt_trichotomy t B with h | h | h
              · have := HNN.out.first t h
                rw [← hK, HR2.out, hu] at this
                simp [he] at this
              · exact h
              · exact absurd hsame (HNE.out B h))
            have hei : (u : Int) = (r2 : Int) := by rw [he]
            obtain ⟨hBt, hKL⟩ := HE.out
            have hBt' := hBt.symm
            clear hu he cc HNE HE
            subst hBt'
            have hlen : (k : Int) + 1 - (B : Int) = (L : Int) := by omega
            have hlw : IntKind.i64.wrap (L : Int) = (L : Int) := IntWalk.i64_in _ (by omega)
            have HIS := Lib.hid (IsInts.of_own HG.out.1)
            have HKL := Lib.hid hKL
            clear hBt hKL
            go_wp2_with fail
            go_loopw [10, 9] (fun v10 v9 wx => ∃ i : Nat, i ≤ B ∧ v10 = .int .i64 (i : Nat) ∧ v9 = .int .i64 ((dcT n B i : Nat) : Int) ∧ wx = wr) (fun v10 _ _ => B - (intOf v10).toNat)
            case atStart => exact ⟨0, Nat.zero_le _, rfl, rfl, rfl⟩
            case round =>
              obtain ⟨i, hi, rfl, rfl, rfl⟩ := hrel
              have hi0 : (0:Int) ≤ (i:Int) := by omega
              by_cases hiB : i < B
              · have hii : (i:Int) < (B:Int) := by omega
                have hik : (i:Int) < ((k + 1 : Nat) : Int) := by have := HKL.out; omega
                obtain ⟨g', off', e5, c3⟩ := HIS.out.at (show i < k + 1 by have := HKL.out; omega)
                simp only [Option.some.injEq, Addr.mk.injEq] at e5
                obtain ⟨rfl, rfl, _⟩ := e5
                rw [dcLs_at (show i < k + 1 by have := HKL.out; omega)] at c3
                have hst : dcT n B (i + 1) = dcT n B i + dcR n i * 2 ^ (B - i) := rfl
                have hb1 := HHH.out.t (i + 1) (by omega)
                have hb0 := HHH.out.t i hi
                obtain ⟨T1, hT1⟩ : ∃ T, dcT n B (i + 1) = T := ⟨_, rfl⟩
                obtain ⟨T0, hT0⟩ : ∃ T, dcT n B i = T := ⟨_, rfl⟩
                obtain ⟨x, hx⟩ : ∃ x, dcR n i = x := ⟨_, rfl⟩
                obtain ⟨e, he⟩ : ∃ e, B - i = e := ⟨_, rfl⟩
                obtain ⟨E, hE⟩ : ∃ E, 2 ^ e = E := ⟨_, rfl⟩
                rw [hT1, hT0, hx, he, hE] at hst
                rw [hT1] at hb1
                rw [hT0] at hb0
                rw [hx] at c3
                rw [hT0]
                have hsub : IntKind.i64.wrap ((B : Int) - (i : Int)) = (e : Int) := by rw [IntWalk.i64_in _ (by omega)]; omega
                have he64 : (e : Int) < 64 := by omega
                have he0 : (0 : Int) ≤ (e : Int) := by omega
                have hpow : (2 : Int) ^ e = (E : Int) := by rw [← hE, Int.natCast_pow]; rfl
                obtain ⟨z, hz⟩ : ∃ z, x * E = z := ⟨_, rfl⟩
                rw [hz] at hst
                have hmulz : (x : Int) * (E : Int) = (z : Int) := by rw [← hz, Int.natCast_mul]
                have hzw : IntKind.i64.wrap (z : Int) = (z : Int) := IntWalk.i64_in _ (by omega)
                have hadd : IntKind.i64.wrap ((T0 : Int) + (z : Int)) = (T1 : Int) := by rw [IntWalk.i64_in _ (by omega)]; omega
                have HT1 := Lib.hid hT1
                clear hT1 hT0 hx he hE hst hz
                go_wp2_with fail
                go_roundw
                case rel => exact ⟨i + 1, by omega, by go_num, by rw [HT1.out], trivial⟩
                case measure => simp [intOf] <;> omega
              · obtain rfl : i = B := by omega
                have hii : ¬ (i:Int) < (i:Int) := by omega
                obtain ⟨T, hT⟩ : ∃ T, dcT n i i = T := ⟨_, rfl⟩
                have hTb := HHH.out.t i (Nat.le_refl _)
                rw [hT] at hTb ⊢
                have HT := Lib.hid hT
                clear hT
                go_wp2_with fail
                go_loopw [12, 11] (fun v12 v11 wx => ∃ j : Nat, j ≤ L ∧ v12 = .int .i64 (j : Nat) ∧ v11 = .int .i64 ((dcP n i L j : Nat) : Int) ∧ wx = wr) (fun v12 _ _ => L - (intOf v12).toNat)
                case atStart => exact ⟨0, Nat.zero_le _, rfl, rfl, rfl⟩
                case round =>
                  obtain ⟨j, hj, rfl, rfl, rfl⟩ := hrel
                  have hj0 : (0:Int) ≤ (j:Int) := by omega
                  by_cases hjL : j < L
                  · have hji : (j:Int) < (L:Int) := by omega
                    obtain ⟨g', off', e5, c3⟩ := HIS.out.at (show i + j < k + 1 by have := HKL.out; omega)
                    simp only [Option.some.injEq, Addr.mk.injEq] at e5
                    obtain ⟨rfl, rfl, _⟩ := e5
                    rw [dcLs_at (show i + j < k + 1 by have := HKL.out; omega)] at c3
                    have hij : IntKind.i64.wrap ((i : Int) + (j : Int)) = ((i + j : Nat) : Int) := by rw [IntWalk.i64_in _ (by omega)]; omega
                    have hij0 : (0:Int) ≤ ((i + j : Nat) : Int) := by omega
                    have hij1 : ((i + j : Nat) : Int) < ((k + 1 : Nat) : Int) := by have := HKL.out; omega
                    have hst : dcP n i L (j + 1) = dcP n i L j + dcR n (i + j) * 2 ^ (L - j) := rfl
                    have hb1 := HHH.out.p (j + 1) (by omega)
                    have hb0 := HHH.out.p j hj
                    obtain ⟨T1, hT1⟩ : ∃ T, dcP n i L (j + 1) = T := ⟨_, rfl⟩
                    obtain ⟨T0, hT0⟩ : ∃ T, dcP n i L j = T := ⟨_, rfl⟩
                    obtain ⟨x, hx⟩ : ∃ x, dcR n (i + j) = x := ⟨_, rfl⟩
                    obtain ⟨e, he⟩ : ∃ e, L - j = e := ⟨_, rfl⟩
                    obtain ⟨E, hE⟩ : ∃ E, 2 ^ e = E := ⟨_, rfl⟩
                    rw [hT1, hT0, hx, he, hE] at hst
                    rw [hT1] at hb1
                    rw [hT0] at hb0
                    rw [hx] at c3
                    rw [hT0]
                    have hsub : IntKind.i64.wrap ((L : Int) - (j : Int)) = (e : Int) := by rw [IntWalk.i64_in _ (by omega)]; omega
                    have he64 : (e : Int) < 64 := by omega
                    have he0 : (0 : Int) ≤ (e : Int) := by omega
                    have hpow : (2 : Int) ^ e = (E : Int) := by rw [← hE, Int.natCast_pow]; rfl
                    obtain ⟨z, hz⟩ : ∃ z, x * E = z := ⟨_, rfl⟩
                    rw [hz] at hst
                    have hmulz : (x : Int) * (E : Int) = (z : Int) := by rw [← hz, Int.natCast_mul]
                    have hzw : IntKind.i64.wrap (z : Int) = (z : Int) := IntWalk.i64_in _ (by omega)
                    have hadd : IntKind.i64.wrap ((T0 : Int) + (z : Int)) = (T1 : Int) := by rw [IntWalk.i64_in _ (by omega)]; omega
                    have HT1 := Lib.hid hT1
                    obtain ⟨q', hq'⟩ : ∃ q', i + j = q' := ⟨_, rfl⟩
                    rw [hq'] at c3 hij hij0 hij1
                    clear hT1 hT0 hx he hE hst hz hq'
                    go_wp2_with fail
                    go_roundw
                    case rel => exact ⟨j + 1, by omega, by go_num, by rw [HT1.out], trivial⟩
                    case measure => simp [intOf] <;> omega
                  · obtain rfl : j = L := by omega
                    have hji : ¬ (j:Int) < (j:Int) := by omega
                    have h2i : 0 < 2 ^ i := Nat.pow_pos (by omega)
                    have h2ib : 2 ^ i ≤ 4294967296 := Nat.pow_le_pow_right (n := 2) (by omega) (show i ≤ 32 by omega)
                    have h2j : 1 < 2 ^ j := Nat.one_lt_two_pow (by omega)
                    have h2jb : 2 ^ j ≤ 4294967296 := Nat.pow_le_pow_right (n := 2) (by omega) (show j ≤ 32 by omega)
                    have hPb := HHH.out.p j (Nat.le_refl _)
                    have hDb := HHH.out.d
                    have hDp : 0 < (2 ^ j - 1) * 2 ^ i := Nat.mul_pos (by omega) h2i
                    have HM1 := Lib.hid (fun w => l01FMake_any ((T : Nat) : Int) (2 ^ i) w (by omega) (by omega) (by omega) h2i)
                    have HM2 := Lib.hid (fun w => l01FMake_any ((dcP n i j j : Nat) : Int) ((2 ^ j - 1) * 2 ^ i) w (by omega) (by omega) (by omega) hDp)
                    have hs1 := HHH.out.s1
                    have hs2 := HHH.out.s2
                    have hFO := HFO.out
                    rw [HT.out] at hs1 hFO
                    obtain ⟨R1, hR1⟩ : ∃ R, mkRat ((T : Nat) : Int) (2 ^ i) = R := ⟨_, rfl⟩
                    obtain ⟨R2, hR2⟩ : ∃ R, mkRat ((dcP n i j j : Nat) : Int) ((2 ^ j - 1) * 2 ^ i) = R := ⟨_, rfl⟩
                    rw [hR1] at HM1 hs1 hFO
                    rw [hR2] at HM2 hs2 hFO
                    have HAD := Lib.hid (fun w => l01FAdd_any R1.num R2.num R1.den R2.den w hs1.1 hs2.1 (Nat.pos_of_ne_zero R1.den_nz) hs1.2 (Nat.pos_of_ne_zero R2.den_nz) hs2.2 R1.reduced R2.reduced)
                    rw [Rat.mkRat_self, Rat.mkRat_self, hFO] at HAD
                    obtain ⟨P0, hP0⟩ : ∃ P, dcP n i j j = P := ⟨_, rfl⟩
                    rw [hP0] at HM2 hPb
                    rw [hP0]
                    obtain ⟨G1, hG1⟩ : ∃ G, 2 ^ i = G := ⟨_, rfl⟩
                    obtain ⟨G2, hG2⟩ : ∃ G, 2 ^ j = G := ⟨_, rfl⟩
                    have hp1 : (2 : Int) ^ i = (G1 : Int) := by rw [← hG1, Int.natCast_pow]; rfl
                    have hp2 : (2 : Int) ^ j = (G2 : Int) := by rw [← hG2, Int.natCast_pow]; rfl
                    rw [hG1] at HM1 h2i h2ib hDp hDb
                    rw [hG2] at h2j h2jb hDp hDb
                    rw [hG1, hG2] at HM2
                    have hw1 : IntKind.i64.wrap (G1 : Int) = (G1 : Int) := IntWalk.i64_in _ (by omega)
                    have hw2 : IntKind.i64.wrap (G2 : Int) = (G2 : Int) := IntWalk.i64_in _ (by omega)
                    have hw3 : IntKind.i64.wrap ((G2 : Int) - 1) = ((G2 - 1 : Nat) : Int) := by rw [IntWalk.i64_in _ (by omega)]; omega
                    obtain ⟨G3, hG3⟩ : ∃ G, G2 - 1 = G := ⟨_, rfl⟩
                    rw [hG3] at HM2 hw3 hDp hDb
                    obtain ⟨G4, hG4⟩ : ∃ G, G3 * G1 = G := ⟨_, rfl⟩
                    rw [hG4] at HM2 hDp hDb
                    have hm4 : (G3 : Int) * (G1 : Int) = (G4 : Int) := by rw [← hG4, Int.natCast_mul]
                    have hw4 : IntKind.i64.wrap (G4 : Int) = (G4 : Int) := IntWalk.i64_in _ (by omega)
                    have hi64 : (i : Int) < 64 := by omega
                    have hj64 : (j : Int) < 64 := by omega
                    obtain ⟨d1, hd1⟩ : ∃ d, R1.den = d := ⟨_, rfl⟩
                    obtain ⟨d2, hd2⟩ : ∃ d, R2.den = d := ⟨_, rfl⟩
                    obtain ⟨n1, hn1⟩ : ∃ d, R1.num = d := ⟨_, rfl⟩
                    obtain ⟨n2, hn2⟩ : ∃ d, R2.num = d := ⟨_, rfl⟩
                    rw [hd1, hn1] at HM1
                    rw [hd2, hn2] at HM2
                    rw [hd1, hn1, hd2, hn2] at HAD
                    have H1 := Lib.hid (And.intro (H0.out.1.all (HG.out.2)) (bthen H0.out.2 HG.out.2))
                    clear hs1 hs2 hFO hR1 hR2 hP0 hG1 hG2 hG3 hG4 hd1 hd2 hn1 hn2 hPb hDb hDp h2i h2ib h2j h2jb H0
                    go_wp2_with fail
                    refine (HM1.out _).mono ?_
                    rintro e w4 ⟨rfl, hb⟩
                    have hb4 : Below w4.heap.size w4 (w4.alloc (.cells #[.int .i64 n1, .int .i64 (d1 : Nat)] 33)) := (Below.refl _ _).alloc (Nat.le_refl _) _
                    have H4 := Lib.hid (And.intro (H1.out.1.all (bthen hb hb4)) (And.intro (C2.new w4 33 (.int .i64 n1) (.int .i64 (d1 : Nat))) (bthen H1.out.2 (bthen hb hb4))))
                    clear hb hb4 H1
                    obtain ⟨b13, hb13⟩ : ∃ b, w4.heap.size = b := ⟨_, rfl⟩
                    obtain ⟨wB, hwB⟩ : ∃ w', w4.alloc (.cells #[.int .i64 n1, .int .i64 (d1 : Nat)] 33) = w' := ⟨_, rfl⟩
                    rw [hwB, hb13] at H4
                    have HWB := Lib.hid (And.intro hwB hb13)
                    clear hwB hb13
                    go_upto_region 24 with fail
                    rw [HWB.out.1]
                    try rw [HWB.out.2]
                    go_wp2_with fail
                    refine (HM2.out _).mono ?_
                    rintro e w5 ⟨rfl, hb⟩
                    have hb5 : Below w5.heap.size w5 (w5.alloc (.cells #[.int .i64 n2, .int .i64 (d2 : Nat)] 33)) := (Below.refl _ _).alloc (Nat.le_refl _) _
                    have H5 := Lib.hid (And.intro (H4.out.1.all (bthen hb hb5)) (And.intro (H4.out.2.1.all (bthen hb hb5)) (And.intro (C2.new w5 33 (.int .i64 n2) (.int .i64 (d2 : Nat))) (bthen H4.out.2.2 (bthen hb hb5)))))
                    clear hb hb5 H4 HWB
                    obtain ⟨b14, hb14⟩ : ∃ b, w5.heap.size = b := ⟨_, rfl⟩
                    obtain ⟨wC, hwC⟩ : ∃ w', w5.alloc (.cells #[.int .i64 n2, .int .i64 (d2 : Nat)] 33) = w' := ⟨_, rfl⟩
                    rw [hwC, hb14] at H5
                    obtain ⟨x0, x1, x2, x3, x4⟩ := H5.out.2.1
                    obtain ⟨y0, y1, y2, y3, y4⟩ := H5.out.2.2.1
                    have HWC := Lib.hid (And.intro hwC hb14)
                    clear hwC hb14
                    go_upto_region 25 with fail
                    rw [HWC.out.1]
                    try rw [HWC.out.2]
                    go_wp2_with fail
                    refine (HAD.out _).mono ?_
                    rintro e w6 ⟨rfl, hb⟩
                    have H6 := Lib.hid (And.intro (H5.out.1.all hb) (bthen H5.out.2.2.2 hb))
                    clear hb H5 x0 x1 x2 x3 x4 y0 y1 y2 y3 y4 HWC
                    obtain ⟨y0, y1, y2, y3, y4⟩ := H6.out.1
                    go_wp2_with fail
                    refine bodyPost_ret (v := .tuple #[.agg #[.int .i64 p, .int .i64 q], .bool b']) (by simp [results, Try.results15, go_sem, *]) rfl ⟨by rw [HV.out], ?_⟩
                    exact below_2c H6.out.2 (by omega) _ _
          · have hne : ¬ (u : Int) = (r2 : Int) := by omega
            have HNE2 := Lib.hid (show ∀ j, j < t + 1 → dcR n j ≠ r2 from fun j hj => by
              by_cases h : j = t
              · rw [h, hu]; exact he
              · exact HNE.out j (by omega))
            clear hu he HNE cc
            go_wp2_with fail
            go_roundw
            case rel => exact ⟨t + 1, by omega, by go_num, trivial, HNE2⟩
            case measure => simp [intOf]; omega
        · obtain rfl : t = k + 1 := by omega
          have hti : ¬ ((k + 1 : Nat) : Int) < ((k + 1 : Nat) : Int) := by omega
          have hkL : k + 1 < B + L := by
            rcases Nat.lt_or_ge (k + 1) (B + L) with h | h
            · exact h
            · have hK : k + 1 = B + L := by omega
              have hsame := HNN.out.same
              rw [← hK, HR2.out] at hsame
              exact absurd hsame (HNE.out B (by omega))
          have HP := Lib.hid (show dcLs n (k + 1) ++ [(r2 : Int)] = dcLs n (k + 1 + 1) by rw [← HR2.out]; exact dcLs_push n (k + 1))
          have HOW := Lib.hid (HG.out.alloc (.cells #[.int .i64 (r2 : Nat)] 2)).1
          have hsz := HG.out.2.size
          clear cc HNE
          go_wp2_with (at_builtin; refine wpList_ap1 rfl (.tmp 50) (.tmp 52) 24 rfl wA.heap.size 2 (.int .i64 0) 8 Try.underlying24 Try.infoI rfl _ (k + 1) _ rfl HOW.out _ (.int .i64 (r2 : Nat)) rfl (by go_simp) rfl (by omega) (by omega) (by simp only [alloc_size]; omega) ?_)
          intro v' w6 hown hgrow _
          obtain ⟨a6, c6, rfl⟩ := own_form hown
          have HG3 := Lib.hid (HG.out.i64 hown hgrow)
          clear hown hgrow
          go_wp2_with fail
          go_roundw
          case rel => exact ⟨k + 1, a6, c6, hkL, rfl, Lib.hid (by rw [← HP.out]; exact HG3.out)⟩
          case measure => simp [lenV]; omega
end Go.Proofs.Ytpineiocjaajnaa

import Derived.Test.YtddmglgogjaajaaTreeI
import Derived.Test.YtddmglgogjaajaaRejCost
/- The cost of drawing by a tree: the reference's walk and the law's. No condition. -/
namespace Go.Proofs.Ytddmglgogjaajaa
open Go.RowKit
set_option linter.unusedVariables false

set_option maxRecDepth 20000 in
set_option maxHeartbeats 3200000 in
theorem specTreeCost_any (a : Option Addr) (len cap : Nat) (ws : List Int) (w : World) (hb : len ≤ 1048576) (hx : IsInts w a len ws) :
    Calls Try.prog 19 #[.slice a len cap] w fun e w' => e = .returned (tcV ws) ∧ Below w.heap.size w w' := by
  obtain rfl := hx.1
  have hA : Below w.heap.size w (w.alloc (.cells #[.int .i64 0, .int .i64 0] 24)) := (Below.refl _ w).alloc (Nat.le_refl _) _
  have hnw := C2.new w 24 (.int .i64 0) (.int .i64 0)
  have HA := Lib.hid (And.intro hA (And.intro hnw (hx.below hA)))
  cases h : treeOk ws with
  | false =>
    have h' : ¬ 0 ≤ levelOf (totalR ws) := by simpa [treeOk] using h
    have hV : tcV ws = .tuple #[.agg #[.int .i64 0, .int .i64 0], .bool false] := by unfold tcV; rw [h]; rfl
    rw [hV]
    obtain ⟨t, ht⟩ : ∃ t, levelOf (totalR ws) = t := ⟨_, rfl⟩
    rw [ht] at h'
    have ht0 : t < 0 := by omega
    have H := Lib.hid ht
    clear h ht hV h' hA hnw
    go_enter Try.func19, Try.ntmps19
    go_wp2_with fail
    refine (l06Level_any _ _ _ ws _ (by omega) HA.out.2.2).mono ?_
    rintro e w1 ⟨rfl, rfl⟩
    rw [H.out]
    go_wp2_with fail
    refine bodyPost_ret (v := .tuple #[.agg #[.int .i64 0, .int .i64 0], .bool false]) (by simp [results, Try.results19, go_sem, *]) rfl ⟨rfl, ?_⟩
    first
      | exact HA.out.1
      | exact (HA.out.1.setCell (p := ⟨w.heap.size, 0, none⟩) (Nat.le_refl _) _).setCell (p := ⟨w.heap.size, 1, none⟩) (Nat.le_refl _) _
  | true =>
    have h' : 0 ≤ levelOf (totalR ws) := by simpa [treeOk] using h
    obtain ⟨k, hk, hl, ht, hs, hn, h0⟩ := dy_level hb h'
    have hV : tcV ws = .tuple #[.agg #[.int .i64 (tcR ws k (k + 1)).num, .int .i64 ((tcR ws k (k + 1)).den : Nat)], .bool true] := by unfold tcV; rw [h, if_pos rfl, hl]; rfl
    have hT := tcN_le (ws := ws) hk hn (k + 1) (Nat.le_refl _)
    have hkm : (k + 1) * 1000000 ≤ 13000000 := by omega
    have hp3 : 2 ^ k ≤ 2 ^ 12 := Nat.pow_le_pow_right (by omega) (by omega)
    have HMK := Lib.hid (fun (w : World) => l01FMake_any (tcN ws k (k + 1) : Nat) (2 ^ k) w (by omega) (by omega) (by omega) (Nat.pos_of_ne_zero (pow_ne k)))
    have hRe : mkRat ((tcN ws k (k + 1) : Nat) : Int) (2 ^ k) = tcR ws k (k + 1) := rfl
    rw [hRe] at HMK
    have H := Lib.hid (And.intro hl (And.intro hn (And.intro h0 hV)))
    clear h h' hl ht hs hn h0 hV hRe hT hkm hA hnw
    obtain ⟨Q, hQ⟩ : ∃ Q, 2 ^ k = Q := ⟨_, rfl⟩
    have hQb : Q ≤ 4096 := by rw [← hQ]; exact hp3
    have hpow : (2 : Int) ^ k = (Q : Int) := by rw [← hQ]; simp
    rw [hQ] at HMK
    clear hp3 hQ
    have hpw : IntKind.i64.wrap (Q : Int) = (Q : Int) := IntWalk.i64_in _ (by omega)
    have hk0 : (0:Int) ≤ (k:Int) := by omega
    have hku : IntKind.u64.wrap (k : Int) = (k : Int) := u64_in (by omega) (by omega)
    go_enter Try.func19, Try.ntmps19
    go_wp2_with fail
    refine (l06Level_any _ _ _ ws _ (by omega) HA.out.2.2).mono ?_
    rintro e w1 ⟨rfl, rfl⟩
    rw [H.out.1]
    go_wp2_with fail
    refine (l06Levels_any _ _ _ ws k _ HA.out.2.2 hk H.out.2.1 H.out.1 H.out.2.2.1).mono ?_
    rintro e w2 ⟨go, co, rs, rfl, hrs, hO⟩
    obtain ⟨hlv, hgo⟩ := lv_of hO hrs
    have H2 := Lib.hid (And.intro (bthen HA.out.1 hO.2) (And.intro (HA.out.2.1.all hO.2) hlv))
    clear hlv hgo hrs hO HA
    obtain ⟨s0, s1, s2, s3, s4⟩ := H2.out.2.1
    go_wp2_with fail
    go_loopw [7, 6] (fun i c wr => ∃ m : Nat, m ≤ k + 1 ∧ i = .int .i64 (m : Nat) ∧ c = .int .i64 (tcN ws k m : Nat) ∧ wr = w2) (fun i _ _ => k + 1 - (intOf i).toNat)
    case atStart => exact ⟨0, Nat.zero_le _, rfl, rfl, rfl⟩
    case round =>
      obtain ⟨m, hm, rfl, rfl, rfl⟩ := hrel
      by_cases hlt : m < k + 1
      · obtain ⟨g, c, hcell⟩ := H2.out.2.2.2 m (by omega)
        have hll : (lvl ws k m).length ≤ 16 := Nat.le_trans (lvl_len ws k m) H.out.2.1
        have hts : tcN ws k (m + 1) = tcN ws k m + m * (lvl ws k m).length * 2 ^ (k - m) := rfl
        have hTm := tcN_le (ws := ws) hk H.out.2.1 m (by omega)
        have hTm1 := tcN_le (ws := ws) hk H.out.2.1 (m + 1) (by omega)
        obtain ⟨L, hL⟩ : ∃ L, (lvl ws k m).length = L := ⟨_, rfl⟩
        rw [hL] at hcell hll hts
        clear hL
        obtain ⟨P, hP⟩ : ∃ P, m * L = P := ⟨_, rfl⟩
        have hPb : P ≤ 208 := by rw [← hP]; exact Nat.mul_le_mul (show m ≤ 13 by omega) hll
        rw [hP] at hts
        obtain ⟨E, hE⟩ : ∃ E, k - m = E := ⟨_, rfl⟩
        rw [hE] at hts
        obtain ⟨X, hX⟩ : ∃ X, 2 ^ E = X := ⟨_, rfl⟩
        rw [hX] at hts
        have hXb : X ≤ 4096 := by rw [← hX]; exact Nat.pow_le_pow_right (by omega) (show E ≤ 12 by omega)
        obtain ⟨Z, hZ⟩ : ∃ Z, P * X = Z := ⟨_, rfl⟩
        have hZb : Z ≤ 208 * 4096 := by rw [← hZ]; exact Nat.mul_le_mul hPb hXb
        rw [hZ] at hts
        obtain ⟨T, hTe⟩ : ∃ T, tcN ws k m = T := ⟨_, rfl⟩
        obtain ⟨T1, hT1e⟩ : ∃ T1, tcN ws k (m + 1) = T1 := ⟨_, rfl⟩
        have HT1 := Lib.hid hT1e
        rw [hTe] at hts hTm
        rw [hT1e] at hts hTm1
        rw [hTe]
        have hmul : IntKind.i64.wrap ((m : Int) * (L : Int)) = (P : Int) := by rw [← hP]; rw [IntWalk.i64_in _ (by rw [← Int.natCast_mul, hP]; omega)]; simp
        have hsub : IntKind.i64.wrap ((k : Int) - (m : Int)) = (E : Int) := by rw [IntWalk.i64_in _ (by omega)]; omega
        have hEu : IntKind.u64.wrap (E : Int) = (E : Int) := u64_in (by omega) (by omega)
        have hXp : (2 : Int) ^ E = (X : Int) := by rw [← hX]; simp
        have hPX : (P : Int) * (X : Int) = (Z : Int) := by rw [← hZ]; simp
        have hZw : IntKind.i64.wrap (Z : Int) = (Z : Int) := IntWalk.i64_in _ (by omega)
        have hadd : IntKind.i64.wrap ((T : Int) + (Z : Int)) = (T1 : Int) := by rw [IntWalk.i64_in _ (by omega)]; omega
        have hmk : (m : Int) ≤ (k : Int) := by omega
        have hE40 : E < 64 := by omega
        clear hTe hT1e hts hTm hTm1 hZ hX hE hP
        go_wp2_with fail
        go_roundw
        case rel => exact ⟨m + 1, by omega, by go_num, by first | rw [HT1.out] | (simp [HT1.out]; done) | (go_num), trivial⟩
        case measure => simp [intOf]; omega
      · obtain rfl : m = k + 1 := by omega
        have hmk : ¬ ((k + 1 : Nat) : Int) ≤ (k : Int) := by omega
        obtain ⟨T, hTe⟩ : ∃ T, tcN ws k (k + 1) = T := ⟨_, rfl⟩
        rw [hTe] at HMK ⊢
        go_wp2_with fail
        refine (HMK.out _).mono ?_
        rintro e w5 ⟨rfl, hb5⟩
        have H5 := Lib.hid (And.intro (bthen H2.out.1 hb5) (H2.out.2.1.all hb5))
        obtain ⟨t0, t1, t2, t3, t4⟩ := H5.out.2
        clear hb5 s0 s1 s2 s3 s4
        go_wp2_with fail
        refine bodyPost_ret (v := .tuple #[.agg #[.int .i64 (tcR ws k (k + 1)).num, .int .i64 ((tcR ws k (k + 1)).den : Nat)], .bool true]) (by simp [results, Try.results19, go_sem, *]) rfl ⟨by rw [H.out.2.2.2], ?_⟩
        exact (H5.out.1.setCell (p := ⟨w.heap.size, 0, none⟩) (Nat.le_refl _) _).setCell (p := ⟨w.heap.size, 1, none⟩) (Nat.le_refl _) _
set_option maxHeartbeats 1600000 in
theorem fnExactTreeCost_walk (a : Option Addr) (len cap : Nat) (zs : List Int) (w : World) (hx : IsInts w a len zs) :
    Calls Try.prog 4 #[.slice a len cap] w fun e w' => e = .returned (.bool true) ∧ Below w.heap.size w w' := by
  by_cases hbig : 1048576 < len
  · have : (1048576 : Int) < (len : Int) := by omega
    go_enter Try.func4, Try.ntmps4
    go_wp2
    go_ret
    exact ⟨rfl, Below.refl _ _⟩
  · have : ¬ (1048576 : Int) < (len : Int) := by omega
    obtain rfl := hx.1
    obtain ⟨p, q, b, hv⟩ := tcV_form zs
    have H1 := Lib.hid (fun (a : Option Addr) (cap : Nat) (w : World) (h : IsInts w a zs.length zs) => specTreeCost_any a zs.length cap zs w (by omega) h)
    have H2 := Lib.hid (fun (a : Option Addr) (cap : Nat) (w : World) (h : IsInts w a zs.length zs) => treeCost_any a zs.length cap zs w (by omega) h)
    rw [hv] at H1 H2
    have HX := Lib.hid hx
    clear hv hx
    go_enter Try.func4, Try.ntmps4
    go_wp2_with fail
    refine (toInt64S_any _ _ _ zs _ (by omega) HX.out).mono ?_
    rintro e w1 ⟨a1, c1, rfl, hown1, hb1⟩
    have K1 := Lib.hid (And.intro hb1 (IsInts.of_own hown1))
    clear hown1 hb1
    go_wp2_with fail
    refine (H1.out _ _ _ K1.out.2).mono ?_
    rintro e w2 ⟨rfl, hb⟩
    have K2 := Lib.hid (bthen K1.out.1 hb)
    clear hb K1
    go_wp2_with fail
    have hb3 : Below w2.heap.size w2 (w2.alloc (.cells #[.int .i64 p, .int .i64 q] 24)) := (Below.refl _ w2).alloc (Nat.le_refl _) _
    have hn3 := C2.new w2 24 (.int .i64 p) (.int .i64 q)
    obtain ⟨w3, hw3⟩ : ∃ w', w2.alloc (.cells #[.int .i64 p, .int .i64 q] 24) = w' := ⟨_, rfl⟩
    rw [hw3] at hb3 hn3 ⊢
    have K3 := Lib.hid (And.intro (bthen K2.out hb3) hn3)
    obtain ⟨b2, hb2e⟩ : ∃ b, w2.heap.size = b := ⟨_, rfl⟩
    rw [hb2e] at K3 ⊢
    clear hw3 hb3 hn3 hb2e K2
    refine (toInt64S_any _ _ _ zs _ (by omega) (HX.out.below K3.out.1)).mono ?_
    rintro e w4 ⟨a4, c4, rfl, hown4, hb4⟩
    have K4 := Lib.hid (And.intro (bthen K3.out.1 hb4) (And.intro (K3.out.2.all hb4) (IsInts.of_own hown4)))
    clear hown4 hb4 K3
    go_wp2_with fail
    refine (H2.out _ _ _ K4.out.2.2).mono ?_
    rintro e w5 ⟨rfl, hb⟩
    have hb6 : Below w5.heap.size w5 (w5.alloc (.cells #[.int .i64 p, .int .i64 q] 24)) := (Below.refl _ w5).alloc (Nat.le_refl _) _
    have hlt5 : b2 < w5.heap.size := (K4.out.2.1.all hb).lt
    obtain ⟨u0, u1, _, _, _⟩ := (K4.out.2.1.all hb).all hb6
    have K6 := Lib.hid (And.intro (bthen (bthen K4.out.1 hb) hb6) ((K4.out.2.2.below hb).below hb6))
    clear hb6 hb K4
    go_wp2_with fail
    refine (eqFraction_same p q _).mono ?_
    rintro e w7 ⟨rfl, hb7⟩
    have K7 := Lib.hid (And.intro (bthen K6.out.1 hb7) (K6.out.2.below hb7))
    clear hb7 K6
    go_wp2_with fail
    refine (toInt64S_any _ _ _ zs _ (by omega) (HX.out.below K7.out.1)).mono ?_
    rintro e w8 ⟨a8, c8, rfl, hown8, hb8⟩
    have K8 := Lib.hid (And.intro (bthen K7.out.1 hb8) (And.intro (K7.out.2.below hb8) (IsInts.of_own hown8)))
    clear hown8 hb8 K7
    go_wp2_with fail
    refine (eqInt64S_any _ _ _ _ _ _ zs zs _ (by omega) K8.out.2.1 K8.out.2.2).mono ?_
    rintro e w9 ⟨rfl, hb9⟩
    have K9 := Lib.hid (bthen K8.out.1 hb9)
    have hdz : decide (zs = zs) = true := by simp
    rw [hdz]
    clear hb9
    go_wp2_with fail
    go_ret
    exact ⟨rfl, K9.out⟩
end Go.Proofs.Ytddmglgogjaajaa

import Derived.Test.YtpineiocjaajnaaFdP
/- The law FnDifferent: the walk. Condition: none. -/
namespace Go.Proofs.Ytpineiocjaajnaa
open Go.RowKit
set_option linter.unusedVariables false

set_option maxRecDepth 100000 in
set_option maxHeartbeats 6400000 in
theorem fnDifferent_walk (a a' : Option Addr) (len cap len' cap' : Nat) (bs bs' : List Int) (w : World) (hx : IsU8s w a len bs) (hx' : IsU8s w a' len' bs') :
    Calls Try.prog 6 #[.slice a len cap, .slice a' len' cap'] w fun e w' => e = .returned (.bool true) ∧ Below w.heap.size w w' := by
  cases hlong : (decide (1048576 < len) || decide (1048576 < len')) with
  | true =>
    go_enter Try.func6, Try.ntmps6
    go_wp2_with fail
    refine (b10Long_any _ _ _ _ _ _ _).mono ?_
    rintro e w' ⟨rfl, rfl⟩
    rw [hlong]
    go_wp2_with fail
    go_ret
    exact ⟨rfl, Below.refl _ _⟩
  | false =>
    obtain ⟨i0, hi, hz0, hz1, hz2⟩ := info_parts Try.infoI
    have HX := Lib.hid hx
    have HX' := Lib.hid hx'
    have HL := Lib.hid hlong
    clear hx hx' hlong
    go_enter Try.func6, Try.ntmps6
    go_wp2_with fail
    refine (b10Long_any _ _ _ _ _ _ _).mono ?_
    rintro e w' ⟨rfl, rfl⟩
    rw [HL.out]
    go_wp2_with fail
    refine (b10At_any _ _ _ _ 0 4 _ HX.out (by omega)).mono ?_
    rintro e w' ⟨x, rfl, hx0, hx1, rfl⟩
    obtain ⟨K, hK⟩ : ∃ K : Nat, 1 + x = (K : Int) := ⟨(1 + x).toNat, by omega⟩
    have hK1 : 1 ≤ K := by omega
    have hK4 : K ≤ 4 := by omega
    have hwK : IntKind.i64.wrap (1 + x) = (K : Int) := by rw [hK]; exact IntWalk.i64_in _ (by omega)
    clear hx0 hx1
    go_wp2_with fail
    refine (b10At_any _ _ _ _ 0 4 _ HX'.out (by omega)).mono ?_
    rintro e w' ⟨y, rfl, hy0, hy1, rfl⟩
    obtain ⟨D, hD⟩ : ∃ D : Nat, 1 + y = (D : Int) := ⟨(1 + y).toNat, by omega⟩
    have hD1 : 1 ≤ D := by omega
    have hD4 : D ≤ 4 := by omega
    have hwD : IntKind.i64.wrap (1 + y) = (D : Int) := by rw [hD]; exact IntWalk.i64_in _ (by omega)
    clear hy0 hy1
    obtain ⟨N, V, F, P, Q, hC⟩ := fdC hK1 hK4 hD1 hD4
    have HC := Lib.hid hC
    clear hC
    go_wp2_with fail
    refine (HC.out.law _).mono ?_
    rintro e w1 ⟨a1, c1, a2, c2, rfl, hi1, hb⟩
    have hb1 : Below w1.heap.size w1 (w1.alloc (.cells #[.slice a1 N c1, .slice a2 N c2] 43)) := (Below.refl _ _).alloc (Nat.le_refl _) _
    have H1 := Lib.hid (show FdM w (w1.alloc (.cells #[.slice a1 N c1, .slice a2 N c2] 43)) w1.heap.size a1 a2 N c1 c2 V F from ⟨C2.new w1 _ _ _, hi1.1.below hb1, hi1.2.below hb1, bthen hb hb1⟩)
    clear hi1 hb hb1
    obtain ⟨b7, hb7⟩ : ∃ b, w1.heap.size = b := ⟨_, rfl⟩
    obtain ⟨wA, hwA⟩ : ∃ w', w1.alloc (.cells #[.slice a1 N c1, .slice a2 N c2] 43) = w' := ⟨_, rfl⟩
    rw [hwA, hb7] at H1
    obtain ⟨x0, x1, x2, x3, x4⟩ := H1.out.bx
    have HW := Lib.hid (And.intro hwA hb7)
    clear hwA hb7
    go_upto_region 6 with fail
    rw [HW.out.1]
    try rw [HW.out.2]
    go_wp2_with fail
    refine (HC.out.valid _ _ _ _ _ H1.out.val H1.out.cha).mono ?_
    rintro e w2 ⟨rfl, hb⟩
    have H2 := Lib.hid (H1.out.all hb)
    clear hb H1 HW x0 x1 x2 x3 x4
    have hD0 : (0:Int) ≤ (D:Int) := by omega
    go_wp2_with fail
    go_loopw [10, 9] (fun i v wr => ∃ j : Nat, j ≤ D ∧ i = .int .i64 (j : Nat) ∧ v = .int .i64 (K ^ j : Nat) ∧ wr = w2) (fun i _ _ => D - (intOf i).toNat)
    case atStart => exact ⟨0, Nat.zero_le _, rfl, rfl, rfl⟩
    case round =>
      obtain ⟨j, hj, rfl, rfl, rfl⟩ := hrel
      by_cases hlt : j < D
      · have hji : (j:Int) < (D:Int) := by omega
        have hj0 : (0:Int) ≤ (j:Int) := by omega
        have hp := pow_all K (by omega) j (by omega)
        have hp2 := pow_all K (by omega) (j + 1) (by omega)
        have hst : K ^ (j + 1) = K ^ j * K := Nat.pow_succ ..
        obtain ⟨p, hpp⟩ : ∃ p, K ^ j = p := ⟨_, rfl⟩
        obtain ⟨p2, hpp2⟩ : ∃ p, K ^ (j + 1) = p := ⟨_, rfl⟩
        rw [hpp] at hp hst
        rw [hpp2] at hp2 hst
        rw [hpp]
        have hmul : IntKind.i64.wrap ((p : Int) * (K : Int)) = (p2 : Int) := by rw [← Int.natCast_mul, ← hst]; exact IntWalk.i64_in _ (by omega)
        have HP2 := Lib.hid hpp2
        clear hpp hpp2 hst
        go_wp2
        go_roundw
        case rel => exact ⟨j + 1, by omega, by go_num, by rw [HP2.out], trivial⟩
        case measure => simp [intOf]; omega
      · obtain rfl : j = D := by omega
        obtain ⟨wu, hwu⟩ : ∃ wu : World, wu = wr := ⟨_, rfl⟩
        subst hwu
        have hA := pow_all K (by omega) j (by omega)
        obtain ⟨A, hAA⟩ : ∃ A, K ^ j = A := ⟨_, rfl⟩
        rw [hAA] at hA ⊢
        have HA := Lib.hid hAA
        have HZ := Lib.hid (zeros_toList (j + 1))
        clear hAA
        go_wp2_with (at_make; refine wpList_make_full _ rfl _ _ 24 rfl wu.heap.size 2 i0 (.int .i64 0) 1 Try.underlying24 hi hz0 hz1 _ _ _ _ (j + 1) rfl rfl ?cL ?cC ?c1 ?c2 ?c3 ?_)
        case cL => push_cast; rfl
        case cC => push_cast; rfl
        case c1 => rw [hz2]; omega
        case c2 => unfold maxLen; omega
        case c3 => exact Nat.le_refl _
        intro w3 hown hgrow
        have HO := Lib.hid (show OwnI wu w3 wu.heap.size (j + 1) (cnI K j 0) from ⟨by rw [HZ.out, cnI_zero] at hown; exact hown, (Below.refl _ _).grown hgrow (Nat.le_refl _) (by simp)⟩)
        clear hown hgrow
        obtain ⟨g, hg⟩ : ∃ g, wu.heap.size = g := ⟨_, rfl⟩
        rw [hg] at HO ⊢
        clear hg
        go_wp2_with fail
        go_loopw [12] (fun i wx => ∃ X : Nat, X ≤ A ∧ i = .int .i64 (X : Nat) ∧ Hid (OwnI wu wx g (j + 1) (cnI K j X))) (fun i _ => A - (intOf i).toNat)
        case atStart => exact ⟨0, Nat.zero_le _, rfl, HO⟩
        case round =>
          clear HO
          obtain ⟨X, hX, rfl, HO⟩ := hrel
          by_cases hXA : X < A
          · have hXi : (X:Int) < (A:Int) := by omega
            have hX0 : (0:Int) ≤ (X:Int) := by omega
            have HG0 := Lib.hid (GrowAt.start wr 2)
            obtain ⟨wb, hwb⟩ : ∃ wb : World, wb = wr := ⟨_, rfl⟩
            subst hwb
            go_wp2_with fail
            go_loopw [15, 13, 14] (fun i v r wy => ∃ (m : Nat) (s : Option Addr) (c : Nat) (R : Nat), m ≤ j ∧ i = .int .i64 (m : Nat) ∧ v = .slice s (snI K X m).length c ∧ r = .int .i64 (R : Nat) ∧ Hid (X / K ^ m = R) ∧ R ≤ 300 ∧ Hid (GrowAt wb wy 2 (.slice s (snI K X m).length c) (snI K X m).length ((snI K X m).map (Value.int .i64)))) (fun i _ _ _ => j - (intOf i).toNat)
            case atStart => exact ⟨0, _, _, X, Nat.zero_le _, rfl, rfl, rfl, Lib.hid (by simp), by omega, HG0⟩
            case round =>
              clear HG0
              obtain ⟨m, s, c, R, hm, rfl, rfl, rfl, HR, hR3, HG⟩ := hrel
              by_cases hmj : m < j
              · have hmi : (m:Int) < (j:Int) := by omega
                have hm0 : (0:Int) ≤ (m:Int) := by omega
                have hR0 : (0:Int) ≤ (R:Int) := by omega
                have hK0 : ¬ (K:Int) = 0 := by omega
                have hK2 : ¬ (K:Int) = -1 := by omega
                have hdiv : X / K ^ (m + 1) = R / K := by rw [Nat.pow_succ, ← Nat.div_div_eq_div_mul, HR.out]
                have hsl : (snI K X m).length ≤ m := by unfold snI; rw [List.length_map]; exact snL_len K X m
                have hyes := snI_yes (K := K) (X := X) (i := m)
                have hno := snI_no (K := K) (X := X) (i := m)
                rw [HR.out] at hyes hno
                obtain ⟨z, hz⟩ : ∃ z, R % K = z := ⟨_, rfl⟩
                obtain ⟨R2, hR2⟩ : ∃ R2, R / K = R2 := ⟨_, rfl⟩
                have hmod : ((R : Nat) : Int) % ((K : Nat) : Int) = ((z : Nat) : Int) := by rw [← hz]; rfl
                have hquo : ((R : Nat) : Int) / ((K : Nat) : Int) = ((R2 : Nat) : Int) := by rw [← hR2]; rfl
                have hR2b : R2 ≤ 300 := by rw [← hR2]; exact Nat.le_trans (Nat.div_le_self _ _) hR3
                have hzb : z ≤ 300 := by rw [← hz]; exact Nat.le_trans (Nat.mod_le _ _) hR3
                rw [hz] at hyes hno
                rw [hR2] at hdiv
                have HDV := Lib.hid hdiv
                obtain ⟨L, hL⟩ : ∃ L, snI K X m = L := ⟨_, rfl⟩
                rw [hL] at HG hsl hyes hno
                rw [hL]
                obtain ⟨n, hn⟩ : ∃ n, L.length = n := ⟨_, rfl⟩
                rw [hn] at HG hsl
                rw [hn]
                have HN := Lib.hid hn
                have HYS := Lib.hid hyes
                have HNO := Lib.hid hno
                clear hz hR2 hdiv hyes hno hL hn
                have htm : ((R : Nat) : Int).tmod ((K : Nat) : Int) = ((z : Nat) : Int) := by rw [Int.tmod_eq_emod_of_nonneg (by omega)]; exact hmod
                have htq : ((R : Nat) : Int).tdiv ((K : Nat) : Int) = ((R2 : Nat) : Int) := by rw [Int.tdiv_eq_ediv_of_nonneg (by omega)]; exact hquo
                have HIS := Lib.hid (IsInts.of_own HG.out.1)
                go_wp2_with fail
                refine (b10Has_any _ _ _ _ (z : Nat) _ HIS.out (by omega)).mono ?_
                rintro e w' ⟨rfl, rfl⟩
                by_cases hmem : ((z : Nat) : Int) ∈ L
                · rw [decide_eq_true hmem]
                  have HL2 := Lib.hid (HYS.out hmem)
                  clear hmem
                  go_wp2_with fail
                  go_roundw
                  case rel => exact ⟨m + 1, s, c, R2, by omega, by go_num, by rw [HL2.out, HN.out], rfl, Lib.hid HDV.out, hR2b, Lib.hid (by rw [HL2.out, HN.out]; exact HG.out)⟩
                  case measure => simp [intOf]; omega
                · rw [decide_eq_false hmem]
                  have HL2 := Lib.hid (HNO.out hmem)
                  clear hmem
                  have HOW := Lib.hid (HG.out.alloc (.cells #[.int .i64 (z : Nat)] 2)).1
                  go_wp2_with (at_builtin; refine wpList_ap1 rfl (.tmp 72) (.tmp 76) 24 rfl wb.heap.size 2 (.int .i64 0) 8 Try.underlying24 Try.infoI rfl _ n _ rfl HOW.out w'.heap.size (.int .i64 (z : Nat)) rfl (by go_simp) rfl (by omega) (by omega) (by have := HG.out.2.size; simp only [alloc_size]; omega) ?_)
                  intro v' w6 hown hgrow _
                  obtain ⟨a6, c6, rfl⟩ := own_form hown
                  have HG3 := Lib.hid (HG.out.i64 hown hgrow)
                  clear hown hgrow
                  go_wp2_with fail
                  go_roundw
                  case rel => exact ⟨m + 1, a6, c6, R2, by omega, by go_num, by rw [HL2.out, List.length_append, HN.out]; rfl, rfl, Lib.hid HDV.out, hR2b, Lib.hid (by rw [HL2.out, List.length_append, HN.out]; exact HG3.out)⟩
                  case measure => simp [intOf]; omega
              · obtain rfl : m = j := by omega
                have hsl : (snL K X m).length ≤ m := snL_len K X m
                have hsi : (snI K X m).length = (snL K X m).length := by unfold snI; rw [List.length_map]
                have hset := cnI_set K m X
                have hcl := cnD_le K m X (snL K X m).length
                have HB := Lib.hid HG.out.2
                rw [hsi]
                clear HG hsi
                obtain ⟨q, hq⟩ : ∃ q, (snL K X m).length = q := ⟨_, rfl⟩
                rw [hq] at hsl hset hcl
                rw [hq]
                clear hq
                have HO2 := Lib.hid (HO.out.after HB.out)
                have d1 := HO2.out.cell (show q < m + 1 by omega)
                have f1 := HO2.out.frozen q
                rw [cnI_at (by omega)] at d1
                obtain ⟨z, hz⟩ : ∃ z, cnD K m X q = z := ⟨_, rfl⟩
                rw [hz] at d1 hset hcl
                have HO3 := Lib.hid (show OwnI wu _ g (m + 1) (cnI K m (X + 1)) by have h := HO2.out.set q ((z : Int) + 1); rw [hset] at h; exact h)
                have hq0 : (0:Int) ≤ (q:Int) := by omega
                have hq1 : (q:Int) < (m:Int) + 1 := by omega
                clear hset hz HO2
                go_wp2_with fail
                go_roundw
                case rel => exact ⟨X + 1, by omega, by go_num, HO3⟩
                case measure => simp [intOf]; omega
          · obtain rfl : X = A := by omega
            have H3 := Lib.hid (And.intro (H2.out.all HO.out.2) (IsInts.of_own HO.out.1))
            clear H2 HO
            go_wp2_with fail
            go_loopw [16] (fun i wy => ∃ v : Nat, v ≤ j + 1 ∧ i = .int .i64 (v : Nat) ∧ Hid (FdM w wy b7 a1 a2 N c1 c2 V F ∧ IsInts wy (some ⟨g, 0, none⟩) (j + 1) (cnI K j X))) (fun i _ => j + 2 - (intOf i).toNat)
            case atStart => exact ⟨0, Nat.zero_le _, rfl, H3⟩
            case round =>
              clear H3
              obtain ⟨v, hv, rfl, H3⟩ := hrel
              by_cases hvj : v ≤ j
              · have hvi : (v:Int) ≤ (j:Int) := by omega
                have hv0 : (0:Int) ≤ (v:Int) := by omega
                have hv1 : (v:Int) < (j:Int) + 1 := by omega
                have HCH := Lib.hid (fun w a1 a2 c1 c2 => HC.out.chance v w a1 a2 c1 c2 hvj)
                have hmk := fun w => HC.out.make v w hvj
                rw [HA.out] at hmk
                obtain ⟨z, hz⟩ : ∃ z, cnD K j X v = z := ⟨_, rfl⟩
                have hcl := cnD_le K j X v
                rw [hz] at hmk hcl
                have HMK := Lib.hid hmk
                have HZZ := Lib.hid hz
                obtain ⟨p, hp⟩ : ∃ p, P v = p := ⟨_, rfl⟩
                obtain ⟨q, hq⟩ : ∃ q, Q v = q := ⟨_, rfl⟩
                rw [hp, hq] at HCH HMK
                clear hmk hz hp hq
                obtain ⟨x0, x1, x2, x3, x4⟩ := H3.out.1.bx
                go_wp2_with fail
                refine (HCH.out _ _ _ _ _ H3.out.1.val H3.out.1.cha).mono ?_
                rintro e w4 ⟨rfl, hb⟩
                have hb4 : Below w4.heap.size w4 (w4.alloc (.cells #[.int .i64 p, .int .i64 q] 33)) := (Below.refl _ _).alloc (Nat.le_refl _) _
                have hbb := bthen hb hb4
                have H4 := Lib.hid (And.intro (H3.out.1.all hbb) (And.intro (H3.out.2.below hbb) (C2.new w4 33 (.int .i64 p) (.int .i64 q))))
                clear hb hb4 hbb x0 x1 x2 x3 x4 H3
                obtain ⟨b17, hb17⟩ : ∃ b, w4.heap.size = b := ⟨_, rfl⟩
                obtain ⟨wB, hwB⟩ : ∃ w', w4.alloc (.cells #[.int .i64 p, .int .i64 q] 33) = w' := ⟨_, rfl⟩
                rw [hwB, hb17] at H4
                obtain ⟨bb, off, e5, cc⟩ := H4.out.2.1.at (show v < j + 1 by omega)
                simp only [Option.some.injEq, Addr.mk.injEq] at e5
                obtain ⟨rfl, rfl, _⟩ := e5
                rw [cnI_at (by omega), HZZ.out, Nat.zero_add] at cc
                have HW := Lib.hid (And.intro hwB hb17)
                clear hwB hb17
                go_upto_region 30 with fail
                rw [HW.out.1]
                try rw [HW.out.2]
                go_wp2_with fail
                refine (HMK.out _).mono ?_
                rintro e w5 ⟨rfl, hb⟩
                have hb5 : Below w5.heap.size w5 (w5.alloc (.cells #[.int .i64 p, .int .i64 q] 33)) := (Below.refl _ _).alloc (Nat.le_refl _) _
                have hbb := bthen hb hb5
                have H5 := Lib.hid (And.intro (H4.out.1.all hbb) (And.intro (H4.out.2.1.below hbb) (And.intro (H4.out.2.2.all hbb) (C2.new w5 33 (.int .i64 p) (.int .i64 q)))))
                clear hb hb5 hbb H4 HW cc
                obtain ⟨b19, hb19⟩ : ∃ b, w5.heap.size = b := ⟨_, rfl⟩
                obtain ⟨wC, hwC⟩ : ∃ w', w5.alloc (.cells #[.int .i64 p, .int .i64 q] 33) = w' := ⟨_, rfl⟩
                rw [hwC, hb19] at H5
                obtain ⟨y0, y1, y2, y3, y4⟩ := H5.out.2.2.1
                obtain ⟨z0, z1, z2, z3, z4⟩ := H5.out.2.2.2
                have HW := Lib.hid (And.intro hwC hb19)
                clear hwC hb19
                go_upto_region 31 with fail
                rw [HW.out.1]
                try rw [HW.out.2]
                go_wp2_with fail
                go_roundw
                case rel => exact ⟨v + 1, by omega, by go_num, Lib.hid ⟨H5.out.1, H5.out.2.1⟩⟩
                case measure => simp [intOf]; omega
              · have hvi : ¬ (v:Int) ≤ (j:Int) := by omega
                go_wp2_with fail
                go_ret
                exact ⟨rfl, H3.out.1.bel⟩
end Go.Proofs.Ytpineiocjaajnaa

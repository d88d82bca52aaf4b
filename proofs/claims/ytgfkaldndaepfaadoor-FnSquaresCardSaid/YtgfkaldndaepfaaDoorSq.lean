import Derived.Test.YtgfkaldndaepfaaDoorParse
import Derived.Test.YtgfkaldndaepfaaDoorSqP
/- The law FnSquares: squares of the spectrum by shifts, fixed shifts, the degree of annihilators. Condition: the arguments are few bytes (else the law returns true at once). -/
namespace Go.Proofs.YtgfkaldndaepfaaDoor
open Go.RowKit
set_option linter.unusedVariables false

theorem r8Has_any (a : Option Addr) (len cap : Nat) (xs : List Int) (z : Int) (w : World) (hx : IsInts w a len xs) (hl : len < 1000000) (hm : z ∈ xs) :
    Calls Tryd.prog 15 #[.slice a len cap, .int .i64 z] w fun e w' => e = .returned (.bool true) ∧ w' = w := by
  have hlen := hx.1
  have HM := Lib.hid (mem_at hm)
  clear hm
  go_enter Tryd.func15, Tryd.ntmps15
  go_wp2
  go_loopw [5] (fun i wr => ∃ m : Nat, m ≤ len ∧ i = .int .i64 (m : Nat) ∧ Hid (∀ j, j < m → xs.getD j 0 ≠ z) ∧ wr = w) (fun i _ => len - (intOf i).toNat)
  case atStart => exact ⟨0, Nat.zero_le _, rfl, Lib.hid (fun j h => by omega), rfl⟩
  case round =>
    obtain ⟨m, hm, rfl, HF, rfl⟩ := hrel
    by_cases hlt : m < len
    · obtain ⟨b2, off2, rfl, hcm⟩ := hx.at hlt
      have hm0 : (0:Int) ≤ (m:Int) := by omega
      have hmi : (m:Int) < (len:Int) := by omega
      obtain ⟨x, hxx⟩ : ∃ x, xs.getD m 0 = x := ⟨_, rfl⟩
      rw [hxx] at hcm
      by_cases hxz : x = z
      · subst hxz
        clear hxx
        go_wp2
        go_ret
        exact ⟨rfl, rfl⟩
      · have HN := Lib.hid (show ∀ j, j < m + 1 → xs.getD j 0 ≠ z from fun j hj => by
          by_cases e : j = m
          · rw [e, hxx]; exact hxz
          · exact HF.out j (by omega))
        clear hxx
        go_wp2
        go_roundw
        case rel => exact ⟨m + 1, by omega, by go_num, HN, trivial⟩
        case measure => simp [intOf]; omega
    · exfalso
      obtain ⟨j, hj, he⟩ := HM.out
      exact HF.out j (by omega) he
set_option maxRecDepth 100000 in
set_option maxHeartbeats 6400000 in
theorem fnSquares_walk (a a' : Option Addr) (len cap len' cap' : Nat) (bs bs' : List Int) (w : World) (hx : IsU8s w a len bs) (hx' : IsU8s w a' len' bs') :
    Calls Tryd.prog 3 #[.slice a len cap, .slice a' len' cap'] w fun e w' => e = .returned (.bool true) ∧ Below w.heap.size w w' := by
  cases hlong : (decide (48 < len) || decide (48 < len')) with
  | true =>
    go_enter Tryd.func3, Tryd.ntmps3
    go_wp2_with fail
    refine (r8Long_any _ _ _ _ _ _ _).mono ?_
    rintro e w' ⟨rfl, rfl⟩
    rw [hlong]
    go_wp2_with fail
    go_ret
    exact ⟨rfl, Below.refl _ _⟩
  | false =>
    have hlens : len ≤ 48 ∧ len' ≤ 48 := by simpa using hlong
    have HX := Lib.hid hx
    have HX' := Lib.hid hx'
    clear hx hx'
    go_enter Tryd.func3, Tryd.ntmps3
    go_wp2_with fail
    refine (r8Long_any _ _ _ _ _ _ _).mono ?_
    rintro e w' ⟨rfl, rfl⟩
    rw [hlong]
    clear hlong
    go_wp2_with fail
    refine (r8Table_any _ _ _ bs w HX.out (by omega)).mono ?_
    rintro e w1 ⟨s, k, rfl, HT⟩
    obtain ⟨hk4, hsz, hB, hbw1⟩ := HT.out
    obtain ⟨hT, hI⟩ := isT_size (by omega) hsz hB
    have h16 : ∀ k, k ≤ 4 → 2 ^ k ≤ 16 := by decide
    have h64 : s.size ≤ 16 := by rw [hsz]; exact h16 k hk4
    have hn1 : 1 ≤ s.size := by rw [hsz]; exact Nat.one_le_two_pow
    have hml : s.size ≤ maxLen := by unfold maxLen; omega
    have HS := Lib.hid (fun w => spectrumOf_any s w hml)
    have HSh := Lib.hid (fun w => shiftsOf_any s w hml)
    have HFx := Lib.hid (fun w => fixedShifts_any s w hml)
    have HAn := Lib.hid (fun w => annDegree_any s w hml)
    have HIn := Lib.hid (fun w => inputsOf_any s w hml)
    have HDg := Lib.hid (fun w => degreeOf_any s w hml)
    have hiv : inpV s = (k : Int) := by unfold inpV; rw [hT, inpI_some hI]; rfl
    obtain ⟨hq1, hq2, hq3⟩ := anV_le (by omega) hsz (inpI_some hI)
    unfold RetI at HIn
    rw [hT, tabL_yes hT] at HS HSh HFx
    rw [hT, hiv] at HIn
    rw [hT, tabV_yes hT] at HAn HDg
    obtain ⟨D, hD⟩ := Int.eq_ofNat_of_zero_le hq3
    obtain ⟨O, hO⟩ : ∃ O : Nat, dgV s = O := ⟨_, rfl⟩
    rw [hD] at HAn hq1 hq2
    rw [hO] at HDg hq2
    have hsum := fun v hv => sqS_sum (s := s) (k := k) (v := v) (by omega) hsz hv
    have hsb := fun v m => sqS_le (S := shL s) (fun a => shL_bound s a (by omega)) v m
    have hfx0 := fx_zero hsz
    have hfxx := fun a b => fx_xor (s := s) (k := k) (a := a) (b := b) (by omega) hsz
    have hfxm : ∀ z, z ∈ fxL s → ∃ a : Nat, z = (a : Int) ∧ a < s.size := fun z hz => by
      obtain ⟨a, h1, h2, _⟩ := fx_mem.1 hz
      exact ⟨a, h1, h2⟩
    have hfl := fxP_len s s.size
    have hfl2 : (fxL s).length ≤ s.size := hfl
    have hsl := shL_len s
    have hLl := spS'_len s
    obtain ⟨L, hL⟩ : ∃ L, spS' s = L := ⟨_, rfl⟩
    obtain ⟨S, hS⟩ : ∃ S, shL s = S := ⟨_, rfl⟩
    obtain ⟨F, hF⟩ : ∃ F, fxL s = F := ⟨_, rfl⟩
    have hLb := fun a => spS'_bound s a (by omega)
    rw [hL] at HS hLl hsum hLb
    rw [hS] at HSh hsl hsum hsb
    rw [hF] at HFx hfx0 hfxx hfxm hfl2
    have HP := Lib.hid (And.intro hLl (And.intro hsl (And.intro hsum (And.intro hsb hLb))))
    have HF := Lib.hid (And.intro hfx0 (And.intro hfxx hfxm))
    have Hb1 := Lib.hid hbw1
    have hDk : (D : Int) ≤ ((k : Int) + 1) / 2 := by omega
    have hDO : (D : Int) ≤ (O : Int) := by omega
    clear hB hT hI hL hS hF hbw1 hsz HT hiv h16 hD hO hLl hsl hsum hsb hfx0 hfxx hfxm hq1 hq2 hq3 hLb hfl
    go_wp2_with fail
    refine (HS.out _).mono ?_
    rintro e w2 ⟨g, c, rfl, hl, hb2⟩
    rw [HP.out.1] at hl ⊢
    have HL2 := Lib.hid (hl.at 0 rfl)
    have Hb2 := Lib.hid (bthen Hb1.out hb2)
    clear hl hb2 Hb1
    go_wp2_with fail
    refine (HSh.out _).mono ?_
    rintro e w3 ⟨g2, c2, rfl, hl, hb3⟩
    rw [HP.out.2.1] at hl ⊢
    have HL3 := Lib.hid (And.intro (HL2.out.below hb3) (hl.at 0 rfl))
    have Hb3 := Lib.hid (bthen Hb2.out hb3)
    clear hl hb3 Hb2 HL2
    go_wp2_with fail
    refine (HFx.out _).mono ?_
    rintro e w4 ⟨g3, c3, rfl, hl, hb4⟩
    have HL4 := Lib.hid (And.intro (HL3.out.1.below hb4) (And.intro (HL3.out.2.below hb4) (hl.at 0 rfl)))
    have Hb4 := Lib.hid (bthen Hb3.out hb4)
    clear hl hb4 Hb3 HL3
    go_wp2_with fail
    refine (HAn.out _).mono ?_
    rintro e w5 ⟨rfl, hb5⟩
    have HL5 := Lib.hid (And.intro (HL4.out.1.below hb5) (And.intro (HL4.out.2.1.below hb5) (HL4.out.2.2.below hb5)))
    have Hb5 := Lib.hid (bthen Hb4.out hb5)
    clear hb5 Hb4 HL4
    go_wp2_with fail
    refine (HIn.out _).mono ?_
    rintro e w6 ⟨rfl, hb6⟩
    have HL6 := Lib.hid (And.intro (HL5.out.1.below hb6) (And.intro (HL5.out.2.1.below hb6) (HL5.out.2.2.below hb6)))
    have Hb6 := Lib.hid (bthen Hb5.out hb6)
    clear hb6 Hb5 HL5
    go_wp2_with fail
    refine (HDg.out _).mono ?_
    rintro e w7 ⟨rfl, hb7⟩
    have HL7 := Lib.hid (And.intro (HL6.out.1.below hb7) (And.intro (HL6.out.2.1.below hb7) (HL6.out.2.2.below hb7)))
    have Hb7 := Lib.hid (bthen Hb6.out hb7)
    clear hb7 Hb6 HL6 HS HSh HFx HAn HIn HDg
    have hd1 : decide ((D:Int) < 0) = false := decide_eq_false (by omega)
    have hd2 : decide (O < D) = false := decide_eq_false (by omega)
    go_wp2_with fail
    refine (r8At_any a' len' cap' bs' 0 (s.size : Int) w7 (HX'.out.below Hb7.out)).mono ?_
    rintro e w8 ⟨v, rfl, hv0, hv1, rfl⟩
    obtain ⟨vn, rfl⟩ := Int.eq_ofNat_of_zero_le hv0
    have hvn : vn < s.size := by omega
    clear hv0 hv1
    obtain ⟨bL, oL, rfl, cL⟩ := HL7.out.1.at hvn
    obtain ⟨zv, hzv⟩ : ∃ zv, L.getD vn 0 = zv := ⟨_, rfl⟩
    have hzb := HP.out.2.2.2.2 vn
    have hsq := sq_le hzb
    have hsum := HP.out.2.2.1 vn hvn
    rw [hzv] at cL hzb hsq hsum
    obtain ⟨Q, hQ⟩ : ∃ Q, zv * zv = Q := ⟨_, rfl⟩
    rw [hQ] at hsum hsq
    have HSUM := Lib.hid hsum
    have HCL := Lib.hid cL
    clear hzv hsum cL
    go_wp2
    go_loopw [20, 19] (fun i v wr => ∃ (m : Nat) (z : Int), m ≤ s.size ∧ i = .int .i64 (m : Nat) ∧ v = .int .i64 z ∧ -1024 ≤ z ∧ z ≤ 1024 ∧ Hid (isum (sqS S vn) m = z) ∧ wr = w7) (fun i _ _ => s.size - (intOf i).toNat)
    case atStart => exact ⟨0, 0, Nat.zero_le _, rfl, rfl, by omega, by omega, Lib.hid rfl, rfl⟩
    case round =>
      obtain ⟨m, z, hm, rfl, rfl, hz1, hz2, HZ, rfl⟩ := hrel
      by_cases hlt : m < s.size
      · have hm0 : (0:Int) ≤ (m:Int) := by omega
        have hmi : (m:Int) < (s.size:Int) := by omega
        obtain ⟨b2, off2, rfl, hcm⟩ := HL7.out.2.1.at hlt
        have hst : isum (sqS S vn) (m + 1) = isum (sqS S vn) m + sqS S vn m := rfl
        have hbd := HP.out.2.2.2.1 vn (m + 1)
        have hand := and_i64 m vn (by omega) (by omega)
        have hq64 : m &&& vn < 64 := Nat.lt_of_le_of_lt Nat.and_le_left (by omega)
        have HW := Lib.hid (fun w => r8Weight_any (m &&& vn) w hq64)
        unfold sqS at hst
        rw [show isum (fun a => if pop6 (a &&& vn) % 2 = 0 then S.getD a 0 else -S.getD a 0) = isum (sqS S vn) from rfl] at hst
        obtain ⟨q, hq⟩ : ∃ q, m &&& vn = q := ⟨_, rfl⟩
        rw [hq] at hst hand HW
        obtain ⟨p, hp⟩ : ∃ p, pop6 q = p := ⟨_, rfl⟩
        rw [hp] at hst HW
        obtain ⟨x, hxx⟩ : ∃ x, S.getD m 0 = x := ⟨_, rfl⟩
        rw [hxx] at hst hcm
        rw [HZ.out] at hst
        by_cases hpar : p % 2 = 0
        · rw [if_pos hpar] at hst
          rw [hst] at hbd
          have hpi : (p : Int) % 2 = 0 := by omega
          have HN := Lib.hid hst
          have hw1 : -9223372036854775808 ≤ z + x ∧ z + x ≤ 9223372036854775807 := by omega
          have hb1 : -1024 ≤ z + x := by omega
          have hb2 : z + x ≤ 1024 := by omega
          clear hst hbd hq hp hxx hq64 hpar
          go_wp2_with (first | (go_at_call 14; refine (HW.out _).mono ?_; rintro e w' ⟨rfl, rfl⟩))
          go_roundw
          case rel => exact ⟨m + 1, z + x, by omega, by go_num, by go_num, hb1, hb2, HN, trivial⟩
          case measure => simp [intOf]; omega
        · rw [if_neg hpar] at hst
          rw [hst] at hbd
          have hpi : (p : Int) % 2 = 1 := by omega
          have hst2 : isum (sqS S vn) (m + 1) = z - x := by rw [hst]; omega
          have HN := Lib.hid hst2
          have hb1 : -1024 ≤ z - x := by omega
          have hb2 : z - x ≤ 1024 := by omega
          clear hst hst2 hbd hq hp hxx hq64 hpar
          go_wp2_with (first | (go_at_call 14; refine (HW.out _).mono ?_; rintro e w' ⟨rfl, rfl⟩))
          go_roundw
          case rel => exact ⟨m + 1, z - x, by omega, by go_num, by go_num, hb1, hb2, HN, trivial⟩
          case measure => simp [intOf]; omega
      · obtain rfl : m = s.size := by omega
        have hzQ : z = Q := by rw [← HZ.out, HSUM.out]
        subst hzQ
        have cL := HCL.out
        have hzq := hQ
        have hwz : IntKind.i64.wrap (zv * zv) = z := by rw [hQ]; exact IntWalk.i64_in _ (by omega)
        obtain ⟨j0, hj0, _⟩ := mem_at HF.out.1
        obtain ⟨bF, oF, rfl, _⟩ := HL7.out.2.2.at hj0
        have hvi : (vn:Int) < (s.size:Int) := by omega
        have hv0 : (0:Int) ≤ (vn:Int) := by omega
        clear hQ HZ HSUM HCL
        go_wp2_with fail
        go_quiet (fail)
        go_wp2
        obtain ⟨wa, hwa⟩ : ∃ wa : World, wa = wr := ⟨_, rfl⟩
        subst hwa
        go_loopw [21] (fun i wx => ∃ m : Nat, m ≤ F.length ∧ i = .int .i64 (m : Nat) ∧ Hid (Below wa.heap.size wa wx)) (fun i _ => F.length - (intOf i).toNat)
        case atStart => exact ⟨0, Nat.zero_le _, rfl, Lib.hid (drewN_below _ _)⟩
        case round =>
          clear cL hzq hwz
          obtain ⟨i, hi, rfl, HQ⟩ := hrel
          by_cases hlt : i < F.length
          · have hi0 : (0:Int) ≤ (i:Int) := by omega
            have hii : (i:Int) < (F.length:Int) := by omega
            obtain ⟨wb, hwb⟩ : ∃ wb : World, wb = wr := ⟨_, rfl⟩
            subst hwb
            go_wp2
            go_loopw [22] (fun k wx => ∃ m : Nat, m ≤ i ∧ k = .int .i64 (m : Nat) ∧ Hid (Below wa.heap.size wa wx)) (fun k _ => i - (intOf k).toNat)
            case atStart => exact ⟨0, Nat.zero_le _, rfl, HQ⟩
            case round =>
              clear HQ
              obtain ⟨kk, hk, rfl, HQ⟩ := hrel
              by_cases hki : kk < i
              · have hkk0 : (0:Int) ≤ (kk:Int) := by omega
                have hkki : (kk:Int) < (i:Int) := by omega
                have hkkl : (kk:Int) < (F.length:Int) := by omega
                have hF := HL7.out.2.2.below HQ.out
                have HFI := Lib.hid hF
                obtain ⟨bq, oq, he, c1⟩ := hF.at hlt
                simp only [Option.some.injEq, Addr.mk.injEq] at he
                obtain ⟨rfl, rfl, _⟩ := he
                obtain ⟨bq, oq, he, c2⟩ := hF.at (show kk < F.length by omega)
                simp only [Option.some.injEq, Addr.mk.injEq] at he
                obtain ⟨rfl, rfl, _⟩ := he
                have m1 := at_mem hlt
                have m2 := at_mem (show kk < F.length by omega)
                obtain ⟨x1, e1, l1⟩ := HF.out.2.2 _ m1
                obtain ⟨x2, e2, l2⟩ := HF.out.2.2 _ m2
                rw [e1] at m1 c1
                rw [e2] at m2 c2
                have HM := Lib.hid (HF.out.2.1 x1 x2 m1 m2)
                have hxor := xor_i64 x1 x2 (by omega) (by omega)
                clear hF m1 m2 e1 e2
                go_wp2_with fail
                go_region_law (first | (go_simp; go_at_call 15; refine (r8Has_any _ _ _ F ((x1 ^^^ x2 : Nat) : Int) _ (by exact HFI.out) (by omega) HM.out).mono ?_; rintro e w5 ⟨rfl, rfl⟩))
                all_goals (try go_wp2_with fail)
                all_goals
                  go_roundw
                  case rel => exact ⟨kk + 1, by omega, by go_num, Lib.hid (bthen HQ.out (drewN_below _ _))⟩
                  case measure => simp [intOf]; omega
              · obtain rfl : kk = i := by omega
                go_wp2
                go_roundw
                case rel => exact ⟨kk + 1, by omega, by go_num, HQ⟩
                case measure => simp [intOf]; omega
          · obtain rfl : i = F.length := by omega
            have hF := Lib.hid (HL7.out.2.2.below HQ.out)
            go_wp2_with fail
            refine (r8Has_any _ _ _ F 0 _ hF.out (by omega) HF.out.1).mono ?_
            rintro e w5 ⟨rfl, rfl⟩
            go_wp2
            go_ret
            exact ⟨rfl, bthen Hb7.out HQ.out⟩
end Go.Proofs.YtgfkaldndaepfaaDoor

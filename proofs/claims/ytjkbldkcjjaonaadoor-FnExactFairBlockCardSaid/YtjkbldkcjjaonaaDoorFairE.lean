import Derived.Test.YtjkbldkcjjaonaaDoorFairD
/- Fair bits out of a block of bits: reference and law. Condition: the text is shorter than the model's greatest length. -/
namespace Go.Proofs.YtjkbldkcjjaonaaDoor
open Go.RowKit
set_option linter.unusedVariables false

set_option maxRecDepth 20000 in
set_option maxHeartbeats 800000 in
theorem specFairBlock_any (s : ByteArray) (w : World) (hs : s.size ≤ maxLen) :
    Calls Tryd.prog 9 #[.string s] w (RetTy w (fbOk s) (fbT s)) := by
  cases hB : isB s with
  | false =>
    have ho : fbOk s = false := by unfold fbOk; rw [hB]; rfl
    rw [show fbT s = [] by unfold fbT; rw [ho]; rfl, ho]
    have H := Lib.hid hB
    clear hB ho
    go_enter Tryd.func9, Tryd.ntmps9
    go_wp2_with fail
    refine (l01Bits_any s _ hs).mono ?_
    rintro e w1 ⟨rfl, rfl⟩
    rw [H.out]
    go_wp2
    go_ret2
    exact retTy_no (Below.refl _ _)
  | true =>
    by_cases hsz : s.size ≤ 16
    · have ho : fbOk s = true := by unfold fbOk; rw [hB, decide_eq_true hsz]; rfl
      rw [show fbT s = bitsP (fbR s).1 (fbR s).2 (fbR s).2 by unfold fbT; rw [ho]; rfl, ho]
      have H := Lib.hid hB
      have hgt : ¬ (16:Int) < (s.size:Int) := by omega
      obtain ⟨R, hR⟩ : ∃ R, fbR s = R := ⟨_, rfl⟩
      rw [hR]
      unfold fbR at hR
      have hlt := rk_lt s s.size
      have hbd := rk_bound s s.size
      have hpw : ∀ a b, a ≤ 16 → bin a b ≤ 65536 := fun a b h => Nat.le_trans (bin_le_pow a b) (Nat.pow_le_pow_right (by omega) h)
      have hcm := fun i (h : i ≤ s.size) => cN_mono s h
      have hcl := cN_le s s.size
      have hst : ∀ i, oneB s i = true → cN s (i + 1) = cN s i + 1 := fun i h => by rw [cN, h]; rfl
      have hsf : ∀ i, oneB s i = false → cN s (i + 1) = cN s i := fun i h => by rw [cN, h]; rfl
      obtain ⟨K, hK⟩ : ∃ K, cN s s.size = K := ⟨_, rfl⟩
      rw [hK] at hR hlt hbd hcl
      have hrt : ∀ i, oneB s i = true → rk s s.size K (i + 1) = rk s s.size K i + bin (s.size - i - 1) (K - cN s i) := fun i h => by rw [rk, h]; rfl
      have hrf : ∀ i, oneB s i = false → rk s s.size K (i + 1) = rk s s.size K i := fun i h => by rw [rk, h]; rfl
      obtain ⟨A, hA⟩ : ∃ A, bin s.size K = A := ⟨_, rfl⟩
      have hA6 := hpw s.size K hsz
      rw [hA] at hR hlt hbd hA6
      obtain ⟨r, hr⟩ : ∃ r, rk s s.size K = r := ⟨_, rfl⟩
      rw [hr] at hR hlt hbd hrt hrf
      obtain ⟨c, hc⟩ : ∃ c, cN s = c := ⟨_, rfl⟩
      rw [hc] at hbd hcm hst hsf hrt hK
      have hr0 : r 0 = 0 := by rw [← hr]; rfl
      have hc0 : c 0 = 0 := by rw [← hc]; rfl
      have hrb : ∀ i, i ≤ s.size → r i ≤ 65536 := fun i h => by have := hbd i h; omega
      have HF := Lib.hid (And.intro hst (And.intro hsf (And.intro hrt (And.intro hrf (And.intro hpw (And.intro hrb (And.intro hcm hK)))))))
      have HA := Lib.hid hA
      have HR := Lib.hid (And.intro hR hlt)
      clear hB ho hR hlt hbd hpw hcm hst hsf hrt hrf hA hr hc hrb hK
      go_enter Tryd.func9, Tryd.ntmps9
      go_wp2_with fail
      refine (l01Bits_any s _ hs).mono ?_
      rintro e w1 ⟨rfl, rfl⟩
      rw [H.out]
      have HQ := Lib.hid (Below.refl w.heap.size w)
      go_wp2
      go_loopw [6, 5] (fun i x wr => ∃ m : Nat, m ≤ s.size ∧ i = .int .i64 (m : Nat) ∧ x = .int .i64 (c m : Nat) ∧ c m ≤ m ∧ Hid (Below w.heap.size w wr)) (fun i _ _ => s.size - (intOf i).toNat)
      case atStart => exact ⟨0, Nat.zero_le _, rfl, by rw [hc0]; rfl, by rw [hc0]; exact Nat.le_refl _, HQ⟩
      case round =>
        clear HQ
        obtain ⟨m, hm, rfl, rfl, hcm, HQ⟩ := hrel
        by_cases hlt : m < s.size
        · have hm0 : (0:Int) ≤ (m:Int) := by omega
          have hmi : (m:Int) < (s.size:Int) := by omega
          have e1 : (((s[m]'hlt).toNat : Nat) : Int) = ((by8 s m).toNat : Int) := by rw [get_by8]
          have e2 := (isB_at H.out hlt).1
          have e3 := (isB_at H.out hlt).2
          rw [e2] at e1
          have e4 : oneB s m = decide (bitOf s m = 1) := by
            unfold oneB bitOf
            by_cases h : by8 s m = 49
            · rw [if_pos h, h]; rfl
            · rw [if_neg h, show (by8 s m == 49) = false from beq_eq_false_iff_ne.2 h]; rfl
          obtain ⟨b, hb⟩ : ∃ b, bitOf s m = b := ⟨_, rfl⟩
          rw [hb] at e1 e3 e4
          clear e2 hb
          obtain ⟨x, hx⟩ : ∃ x, c m = x := ⟨_, rfl⟩
          rcases e3 with rfl | rfl
          · have g1 : oneB s m = false := by rw [e4]; rfl
            have hy := HF.out.2.1 m g1
            rw [hx] at hy hcm ⊢
            have HN := Lib.hid hy
            have e5 : (((s[m]'hlt).toNat : Nat) : Int) = 48 := e1
            clear hx hy g1 e4 e1
            go_wp2
            go_roundw
            case rel => exact ⟨m + 1, by omega, by go_num, by rw [HN.out], by rw [HN.out]; omega, HQ⟩
            case measure => simp [intOf]; omega
          · have g1 : oneB s m = true := by rw [e4]; rfl
            have hy := HF.out.1 m g1
            rw [hx] at hy hcm ⊢
            have HN := Lib.hid hy
            have e5 : (((s[m]'hlt).toNat : Nat) : Int) = 49 := e1
            clear hx hy g1 e4 e1
            go_wp2
            go_roundw
            case rel => exact ⟨m + 1, by omega, by go_num, by rw [HN.out]; go_num, by rw [HN.out]; omega, HQ⟩
            case measure => simp [intOf]; omega
        · obtain rfl : m = s.size := by omega
          rw [HF.out.2.2.2.2.2.2.2]
          clear hcm
          go_wp2
          go_loopw [9, 7, 8] (fun i x y wr => ∃ m : Nat, m ≤ s.size ∧ i = .int .i64 (m : Nat) ∧ x = .int .i64 (r m : Nat) ∧ y = .int .i64 ((K - c m : Nat) : Int) ∧ Hid (Below w.heap.size w wr)) (fun i _ _ _ => s.size - (intOf i).toNat)
          case atStart => exact ⟨0, Nat.zero_le _, rfl, by rw [hr0]; rfl, by rw [hc0]; rfl, HQ⟩
          case round =>
            clear HQ
            obtain ⟨m, hm, rfl, rfl, rfl, HQ⟩ := hrel
            by_cases hlt : m < s.size
            · have hm0 : (0:Int) ≤ (m:Int) := by omega
              have hmi : (m:Int) < (s.size:Int) := by omega
              have e1 : (((s[m]'hlt).toNat : Nat) : Int) = ((by8 s m).toNat : Int) := by rw [get_by8]
              have e2 := (isB_at H.out hlt).1
              have e3 := (isB_at H.out hlt).2
              rw [e2] at e1
              have e4 : oneB s m = decide (bitOf s m = 1) := by
                unfold oneB bitOf
                by_cases h : by8 s m = 49
                · rw [if_pos h, h]; rfl
                · rw [if_neg h, show (by8 s m == 49) = false from beq_eq_false_iff_ne.2 h]; rfl
              obtain ⟨b, hb⟩ : ∃ b, bitOf s m = b := ⟨_, rfl⟩
              rw [hb] at e1 e3 e4
              clear e2 hb
              rcases e3 with rfl | rfl
              · have g1 : oneB s m = false := by rw [e4]; rfl
                have hx := HF.out.2.1 m g1
                have hy := HF.out.2.2.2.1 m g1
                have HN := Lib.hid (And.intro hx hy)
                have e5 : (((s[m]'hlt).toNat : Nat) : Int) = 48 := e1
                clear hx hy g1 e4 e1
                go_wp2
                go_roundw
                case rel => exact ⟨m + 1, by omega, by go_num, by rw [HN.out.2], by rw [HN.out.1], HQ⟩
                case measure => simp [intOf]; omega
              · have g1 : oneB s m = true := by rw [e4]; rfl
                have hx := HF.out.1 m g1
                have hy := HF.out.2.2.1 m g1
                have hk1 := HF.out.2.2.2.2.2.2.1 (m + 1) (by omega)
                rw [HF.out.2.2.2.2.2.2.2, hx] at hk1
                obtain ⟨q, hq⟩ : ∃ q, K - c m = q + 1 := ⟨K - c m - 1, by omega⟩
                have hq2 : K - (c m + 1) = q := by omega
                have hq16 : (q:Int) ≤ 16 := by omega
                rw [hq] at hy
                obtain ⟨a, ha⟩ : ∃ a, s.size - m - 1 = a := ⟨_, rfl⟩
                rw [ha] at hy
                have hb1 := HF.out.2.2.2.2.1 a (q + 1) (by omega)
                have hb2 := HF.out.2.2.2.2.2.1 m hm
                have HCh := Lib.hid (fun w => l06Choose_any a (q + 1) w (by omega) (by omega))
                obtain ⟨Z, hZ⟩ : ∃ Z, bin a (q + 1) = Z := ⟨_, rfl⟩
                rw [hZ] at hy hb1 HCh
                obtain ⟨X, hX⟩ : ∃ X, r m = X := ⟨_, rfl⟩
                rw [hX] at hy hb2
                rw [hq, hX]
                have HN := Lib.hid (And.intro hx (And.intro hy hq2))
                have e5 : (((s[m]'hlt).toNat : Nat) : Int) = 49 := e1
                have hai : (s.size : Int) - (m : Int) - 1 = (a : Int) := by omega
                have hqc : ((q + 1 : Nat) : Int) = (q : Int) + 1 := by omega
                rw [hqc] at HCh ⊢
                clear hx hy g1 e4 e1 hZ hX hq hq2 hk1 ha hqc
                go_wp2_with fail
                refine (HCh.out _).mono ?_
                rintro e w4 ⟨rfl, rfl⟩
                go_wp2
                go_roundw
                case rel => exact ⟨m + 1, by omega, by go_num, by rw [HN.out.2.1]; go_num, by rw [HN.out.1, HN.out.2.2], HQ⟩
                case measure => simp [intOf]; omega
            · obtain rfl : m = s.size := by omega
              obtain ⟨X, hX⟩ : ∃ X, r s.size = X := ⟨_, rfl⟩
              rw [hX] at HR ⊢
              have hX6 := HF.out.2.2.2.2.2.1 s.size (Nat.le_refl _)
              rw [hX] at hX6
              have HD := Lib.hid (fun w => l06Choose_any s.size K w hsz (by omega))
              rw [HA.out] at HD
              have HI : Hid (X < A % 2 ^ 17 ∧ fbGo A 17 X = R) := Lib.hid ⟨by rw [Nat.mod_eq_of_lt (show A < 2 ^ 17 by omega)]; exact HR.out.2, HR.out.1⟩
              have hLc : (K - c s.size : Nat) = 0 := by rw [HF.out.2.2.2.2.2.2.2]; omega
              rw [hLc]
              clear hX hLc HF
              go_wp2_with fail
              refine (HD.out _).mono ?_
              rintro e w5 ⟨rfl, rfl⟩
              go_wp2
              go_loopw [11, 7] (fun i x wr => ∃ (m y : Nat) (z : Int), m ≤ 17 ∧ y ≤ 65536 ∧ z = (m:Int) - 1 ∧ i = .int .i64 z ∧ x = .int .i64 (y : Nat) ∧ Hid (y < A % 2 ^ m ∧ fbGo A m y = R) ∧ Hid (Below w.heap.size w wr)) (fun i _ _ => (intOf i + 1).toNat)
              case atStart => exact ⟨17, X, _, Nat.le_refl _, hX6, rfl, rfl, rfl, HI, HQ⟩
              case round =>
                clear HI HQ
                obtain ⟨m, y, z, hm, hy6, hz, rfl, rfl, HI, HQ⟩ := hrel
                cases m with
                | zero =>
                  have := HI.out.1
                  rw [Nat.pow_zero, Nat.mod_one] at this
                  exact absurd this (Nat.not_lt_zero _)
                | succ e =>
                  obtain rfl : z = (e:Int) := by omega
                  have he0 : (0:Int) ≤ (e:Int) := by omega
                  have he1 : (e:Int) ≤ 16 := by omega
                  obtain ⟨P, hP, hP6, hP1, hpw, hand⟩ := fb_step (x := y) (e := e) hA6 (by omega)
                  have f1 := fun hb => fb_no (A := A) (e := e) hb HI.out.1 HI.out.2
                  have f2 := fun hb hl => fb_hit (A := A) (e := e) (x := y) hb hl HI.out.2
                  have f3 := fun hb hl => fb_go (A := A) (e := e) hb hl HI.out.1 HI.out.2
                  have HP := Lib.hid hP
                  rw [hP] at f2 f3
                  obtain ⟨β, hβ⟩ : ∃ β, A.testBit e = β := ⟨_, rfl⟩
                  rw [hβ] at f1 f2 f3 hand
                  clear hz hP hβ HI
                  cases β with
                  | false =>
                    have HN := Lib.hid (f1 rfl)
                    simp only [Bool.false_eq_true, if_false] at hand
                    clear f1 f2 f3
                    go_wp2
                    go_roundw
                    case rel => exact ⟨e, y, _, Nat.le_of_succ_le hm, hy6, rfl, rfl, rfl, HN, HQ⟩
                    case measure => simp [intOf]
                  | true =>
                    simp only [if_true] at hand
                    have hPn := pos_ne hP1
                    by_cases hl : y < P
                    · have HN := Lib.hid (f2 rfl hl)
                      have hli : ¬ (P : Int) ≤ (y : Int) := fun h => absurd (Int.ofNat_le.1 h) (Nat.not_le.2 hl)
                      have he17 : e ≤ 16 := Nat.le_of_succ_le_succ hm
                      clear f1 f2 f3
                      obtain ⟨wa, hwa⟩ : ∃ wa : World, wa = wr := ⟨_, rfl⟩
                      subst hwa
                      have HG := Lib.hid (GrowAt.start wa 5)
                      go_upto_region 25 with fail
                      try rw [hpw]
                      clear hand hpw
                      go_wp2
                      go_loopw [14, 13] (fun i v wr => ∃ (t m : Nat) (z : Int), m + t = e ∧ z = (m:Int) - 1 ∧ i = .int .i64 z ∧ Hid (GrowAt wa wr 5 v t ((bitsP y e t).map (Value.int .u8)))) (fun i _ _ => (intOf i + 1).toNat)
                      case atStart => exact ⟨0, e, _, by omega, rfl, rfl, HG⟩
                      case round =>
                        clear HG
                        obtain ⟨t, m, z, hmt, hz, rfl, HG⟩ := hrel
                        cases m with
                        | succ f =>
                          obtain rfl : z = (f:Int) := by omega
                          have hf0 : (0:Int) ≤ (f:Int) := by omega
                          have hf1 : (f:Int) ≤ 16 := by omega
                          have hst := bitsP_succ y e t
                          rw [show e - 1 - t = f by omega] at hst
                          have hand := and_bit y f hy6 (by omega)
                          obtain ⟨b, hb⟩ : ∃ b : Int, ((y / 2 ^ f % 2 : Nat) : Int) = b := ⟨_, rfl⟩
                          have hb01 : b = 0 ∨ b = 1 := by omega
                          rw [hb] at hst hand
                          obtain ⟨q, hq⟩ : ∃ q : Int, 48 + b = q := ⟨_, rfl⟩
                          rw [hq] at hst
                          have hq0 : 48 ≤ q := by omega
                          have hq1 : q ≤ 49 := by omega
                          have HST := Lib.hid hst
                          have hsz := HG.out.2.size
                          have HG1 := Lib.hid (HG.out.alloc (.cells #[.int .u8 q] 5))
                          clear hst hb hz
                          go_wp2_with (at_builtin; refine wpList_ap1 rfl (.tmp 85) (.tmp 93) 37 rfl wa.heap.size 5 (.int .u8 0) 1 Tryd.underlying37 Tryd.infoB9 rfl _ t _ rfl HG1.out.1 wr.heap.size (.int .u8 q) rfl (by go_simp) rfl (by omega) (by omega) HG1.out.2.size ?_)
                          intro v' w6 hown hgrow _
                          have HG2 := Lib.hid (show GrowAt wa w6 5 v' (t + 1) ((bitsP y e (t + 1)).map (Value.int .u8)) by rw [HST.out]; exact HG.out.byte hown hgrow)
                          clear hown hgrow
                          go_wp2
                          go_roundw
                          case rel => exact ⟨t + 1, f, _, by omega, rfl, rfl, HG2⟩
                          case measure => simp [intOf]
                        | zero =>
                          obtain rfl : z = -1 := by omega
                          obtain rfl : t = e := by omega
                          clear hz hmt
                          have hcb := conv_own (P := Tryd.prog) 37 9 Tryd.underlying37 Tryd.underlying5 Tryd.underlying9 HG.out.1
                          go_wp2
                          go_ret2
                          exact ⟨by rw [HN.out]; rfl, bthen HQ.out HG.out.2⟩
                    · have HN := Lib.hid (f3 rfl hl)
                      have hli : (P : Int) ≤ (y : Int) := Int.ofNat_le.2 (Nat.not_lt.1 hl)
                      clear f1 f2 f3
                      go_upto_region 24 with fail
                      try rw [hpw]
                      clear hand hpw
                      go_wp2
                      go_roundw
                      case rel => exact ⟨e, y - P, _, by omega, by omega, rfl, rfl, by go_num, Lib.hid (by rw [HP.out]; exact HN.out), HQ⟩
                      case measure => simp [intOf]
    · have ho : fbOk s = false := by unfold fbOk; rw [decide_eq_false hsz, Bool.and_false]
      rw [show fbT s = [] by unfold fbT; rw [ho]; rfl, ho]
      have H := Lib.hid hB
      have hgt : (16:Int) < (s.size:Int) := by omega
      clear hB ho
      go_enter Tryd.func9, Tryd.ntmps9
      go_wp2_with fail
      refine (l01Bits_any s _ hs).mono ?_
      rintro e w1 ⟨rfl, rfl⟩
      rw [H.out]
      go_wp2
      go_ret2
      exact retTy_no (Below.refl _ _)
theorem fnExactFairBlock_walk (s : ByteArray) (w : World) (hs : s.size ≤ maxLen) :
    Calls Tryd.prog 4 #[.string s] w fun e w' => e = .returned (.bool true) ∧ Below w.heap.size w w' := by
  by_cases hbig : 1048576 < s.size
  · have : (1048576 : Int) < (s.size : Int) := by omega
    go_enter Tryd.func4, Tryd.ntmps4
    go_wp2
    go_ret
    exact ⟨rfl, Below.refl _ _⟩
  · have HI := Lib.hid (fun w => fairBlock_any s w hs)
    have HS := Lib.hid (fun w => specFairBlock_any s w hs)
    unfold RetTy at HI HS
    obtain ⟨d, hd⟩ : ∃ d, fbOk s = d := ⟨_, rfl⟩
    obtain ⟨z, hz⟩ : ∃ z, strOfNums (fbT s) = z := ⟨_, rfl⟩
    rw [hd, hz] at HI HS
    have h0 : ¬ (1048576 : Int) < (s.size : Int) := by omega
    clear hd hz hbig
    go_enter Tryd.func4, Tryd.ntmps4
    go_wp2_with fail
    refine (HS.out _).mono ?_
    rintro e w1 ⟨rfl, hb1⟩
    have HB1 := Lib.hid hb1
    clear hb1
    go_wp2_with fail
    refine (HI.out _).mono ?_
    rintro e w2 ⟨rfl, hb2⟩
    have HB2 := Lib.hid (bthen HB1.out hb2)
    clear hb2
    go_wp2
    go_ret
    exact ⟨rfl, HB2.out⟩
end Go.Proofs.YtjkbldkcjjaonaaDoor

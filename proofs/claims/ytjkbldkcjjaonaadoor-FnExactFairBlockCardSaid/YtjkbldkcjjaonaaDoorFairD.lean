import Derived.Test.YtjkbldkcjjaonaaDoorFairC
import Derived.Deep.LoopGhost
import Derived.Deep.DeepCutAuto
/- Fair bits out of a block of bits: program, reference, law. Condition: the text is shorter than the model's greatest length. -/
namespace Go.Proofs.YtjkbldkcjjaonaaDoor
open Go.RowKit
set_option linter.unusedVariables false

theorem bitLen_at (k x : Nat) (hk : k < 64) (h1 : 2 ^ k ≤ x) (h2 : x < 2 ^ (k + 1)) : Lib.bitLen x = k + 1 := by
  have h3 : x < 2 ^ 64 := Nat.lt_of_lt_of_le h2 (Nat.pow_le_pow_right (by omega) (by omega))
  have h4 : x / 2 ^ k = 1 := by
    have hp : 0 < 2 ^ k := Nat.two_pow_pos k
    rw [Nat.pow_succ] at h2
    have a : 1 ≤ x / 2 ^ k := (Nat.le_div_iff_mul_le hp).2 (by omega)
    have b : x / 2 ^ k < 2 := (Nat.div_lt_iff_lt_mul hp).2 (by omega)
    omega
  rw [Lib.bitLen_shift k x h1 h3, h4]
  rfl
theorem pos_ne {P : Nat} (h : 1 ≤ P) : ((P : Int) == 0) = false := by simp; omega
theorem len_lt (A : Nat) (hA : A ≤ 65536) (h0 : A ≠ 0) : A < 2 ^ Lib.bitLen A := by
  have h1 := Nat.log2_self_le h0
  have h2 := Nat.lt_log2_self (n := A)
  have h3 : A.log2 < 64 := (Nat.log2_lt h0).2 (by omega)
  rw [bitLen_at A.log2 A h3 h1 h2]
  exact h2
theorem degree_any (A : Nat) (w : World) (hA : A ≤ 65536) : Calls Tryd.prog 21 #[.int .i64 A] w fun e w' => e = .returned (.int .i64 ((Lib.bitLen A : Nat) - 1 : Int)) ∧ w' = w := by
  have hb := Lib.bitLen_le A 17 (by omega) (by omega)
  go_enter Tryd.func21, Tryd.ntmps21
  go_wp2_with fail
  refine (Tryd.bits_Len64 _ _ (by omega) (by omega)).mono ?_
  rintro e w1 ⟨rfl, rfl⟩
  rw [show ((A : Int)).toNat = A by simp]
  go_wp2
  go_ret
  exact ⟨rfl, rfl⟩
set_option maxRecDepth 20000 in
set_option maxHeartbeats 400000 in
theorem fairBlock_any (s : ByteArray) (w : World) (hs : s.size ≤ maxLen) :
    Calls Tryd.prog 10 #[.string s] w (RetTy w (fbOk s) (fbT s)) := by
  cases hB : isB s with
  | false =>
    have ho : fbOk s = false := by unfold fbOk; rw [hB]; rfl
    rw [show fbT s = [] by unfold fbT; rw [ho]; rfl, ho]
    have H := Lib.hid hB
    clear hB ho
    go_enter Tryd.func10, Tryd.ntmps10
    go_wp2_with fail
    refine (isBits_any s _ hs).mono ?_
    rintro e w1 ⟨rfl, hb1⟩
    rw [H.out]
    have Hb := Lib.hid hb1
    clear hb1
    go_wp2
    go_ret2
    exact retTy_no Hb.out
  | true =>
    by_cases hsz : s.size ≤ 16
    · have ho : fbOk s = true := by unfold fbOk; rw [hB, decide_eq_true hsz]; rfl
      rw [show fbT s = bitsP (fbR s).1 (fbR s).2 (fbR s).2 by unfold fbT; rw [ho]; rfl, ho]
      have H := Lib.hid hB
      have hgt : ¬ (16:Int) < (s.size:Int) := by omega
      obtain ⟨R, hR⟩ : ∃ R, fbR s = R := ⟨_, rfl⟩
      rw [hR]
      unfold fbR at hR
      have hlt := rk_lt s s.size
      have hbd := rk_bound s s.size
      have hpw : ∀ a b, a ≤ 16 → bin a b ≤ 65536 := fun a b h => Nat.le_trans (bin_le_pow a b) (Nat.pow_le_pow_right (by omega) h)
      have hcm := fun i (h : i ≤ s.size) => cN_mono s h
      have hcl := cN_le s s.size
      have hca := cN_all s
      have hst : ∀ i, oneB s i = true → cN s (i + 1) = cN s i + 1 := fun i h => by rw [cN, h]; rfl
      have hsf : ∀ i, oneB s i = false → cN s (i + 1) = cN s i := fun i h => by rw [cN, h]; rfl
      obtain ⟨K, hK⟩ : ∃ K, cN s s.size = K := ⟨_, rfl⟩
      rw [hK] at hR hlt hbd hcl hca
      have hrt : ∀ i, oneB s i = true → rk s s.size K (i + 1) = rk s s.size K i + bin (s.size - i - 1) (K - cN s i) := fun i h => by rw [rk, h]; rfl
      have hrf : ∀ i, oneB s i = false → rk s s.size K (i + 1) = rk s s.size K i := fun i h => by rw [rk, h]; rfl
      obtain ⟨A, hA⟩ : ∃ A, bin s.size K = A := ⟨_, rfl⟩
      have hA6 := hpw s.size K hsz
      rw [hA] at hR hlt hbd hA6
      have hcs : Lib.countByte s.data.toList 49 = K := hca
      obtain ⟨r, hr⟩ : ∃ r, rk s s.size K = r := ⟨_, rfl⟩
      rw [hr] at hR hlt hbd hrt hrf
      obtain ⟨c, hc⟩ : ∃ c, cN s = c := ⟨_, rfl⟩
      rw [hc] at hbd hcm hst hsf hrt hK
      have hr0 : r 0 = 0 := by rw [← hr]; rfl
      have hc0 : c 0 = 0 := by rw [← hc]; rfl
      have hrb : ∀ i, i ≤ s.size → r i ≤ 65536 := fun i h => by have := hbd i h; omega
      have HF := Lib.hid (And.intro hst (And.intro hsf (And.intro hrt (And.intro hrf (And.intro hpw (And.intro hrb (And.intro hcm hK)))))))
      have HA := Lib.hid hA
      have HR := Lib.hid (And.intro hR hlt)
      have HC := Lib.hid hcs
      clear hB ho hR hlt hbd hpw hcm hca hst hsf hrt hrf hA hcs hr hc hrb hK
      go_enter Tryd.func10, Tryd.ntmps10
      go_wp2_with fail
      refine (isBits_any s _ hs).mono ?_
      rintro e w1 ⟨rfl, hb1⟩
      rw [H.out]
      have Hb1 := Lib.hid hb1
      clear hb1
      go_wp2_with fail
      refine (Tryd.strings_Count_one s 49 _).mono ?_
      rintro e w2 ⟨rfl, rfl⟩
      rw [HC.out]
      go_wp2_with fail
      refine (choose_any s.size K _ hsz (by omega)).mono ?_
      rintro e w3 ⟨rfl, hb3⟩
      rw [HA.out]
      have Hb3 := Lib.hid (bthen Hb1.out hb3)
      clear hb3
      go_wp2
      go_loopw [28, 6, 5] (fun i x y wr => ∃ m : Nat, m ≤ s.size ∧ i = .int .i64 (m : Nat) ∧ x = .int .i64 (r m : Nat) ∧ y = .int .i64 ((K - c m : Nat) : Int) ∧ Hid (Below w.heap.size w wr)) (fun i _ _ _ => s.size - (intOf i).toNat)
      case atStart => exact ⟨0, Nat.zero_le _, rfl, by rw [hr0]; rfl, by rw [hc0]; rfl, Hb3⟩
      case round =>
        obtain ⟨m, hm, rfl, rfl, rfl, HQ⟩ := hrel
        by_cases hlt : m < s.size
        · have hm0 : (0:Int) ≤ (m:Int) := by omega
          have hmi : (m:Int) < (s.size:Int) := by omega
          have e1 : (((s[m]'hlt).toNat : Nat) : Int) = ((by8 s m).toNat : Int) := by rw [get_by8]
          have e2 := (isB_at H.out hlt).1
          have e3 := (isB_at H.out hlt).2
          rw [e2] at e1
          have e4 : oneB s m = decide (bitOf s m = 1) := by
            unfold oneB bitOf
            by_cases h : by8 s m = 49
            · rw [if_pos h, h]; rfl
            · rw [if_neg h, show (by8 s m == 49) = false from beq_eq_false_iff_ne.2 h]; rfl
          obtain ⟨b, hb⟩ : ∃ b, bitOf s m = b := ⟨_, rfl⟩
          rw [hb] at e1 e3 e4
          clear e2 hb
          rcases e3 with rfl | rfl
          · have g1 : oneB s m = false := by rw [e4]; rfl
            have hx := HF.out.2.1 m g1
            have hy := HF.out.2.2.2.1 m g1
            have HN := Lib.hid (And.intro hx hy)
            have e5 : (((s[m]'hlt).toNat : Nat) : Int) = 48 := e1
            clear hx hy g1 e4 e1
            go_wp2
            go_roundw
            case rel => exact ⟨m + 1, by omega, by go_num, by rw [HN.out.2], by rw [HN.out.1], HQ⟩
            case measure => simp [intOf]; omega
          · have g1 : oneB s m = true := by rw [e4]; rfl
            have hx := HF.out.1 m g1
            have hy := HF.out.2.2.1 m g1
            have hk1 := HF.out.2.2.2.2.2.2.1 (m + 1) (by omega)
            rw [HF.out.2.2.2.2.2.2.2, hx] at hk1
            obtain ⟨q, hq⟩ : ∃ q, K - c m = q + 1 := ⟨K - c m - 1, by omega⟩
            have hq2 : K - (c m + 1) = q := by omega
            have hq16 : (q:Int) ≤ 16 := by omega
            rw [hq] at hy
            obtain ⟨a, ha⟩ : ∃ a, s.size - m - 1 = a := ⟨_, rfl⟩
            rw [ha] at hy
            have hb1 := HF.out.2.2.2.2.1 a (q + 1) (by omega)
            have hb2 := HF.out.2.2.2.2.2.1 m hm
            have HCh := Lib.hid (fun w => choose_any a (q + 1) w (by omega) (by omega))
            obtain ⟨Z, hZ⟩ : ∃ Z, bin a (q + 1) = Z := ⟨_, rfl⟩
            rw [hZ] at hy hb1 HCh
            obtain ⟨X, hX⟩ : ∃ X, r m = X := ⟨_, rfl⟩
            rw [hX] at hy hb2
            rw [hq, hX]
            have HN := Lib.hid (And.intro hx (And.intro hy hq2))
            have e5 : (((s[m]'hlt).toNat : Nat) : Int) = 49 := e1
            have hai : (s.size : Int) - (m : Int) - 1 = (a : Int) := by omega
            have hqc : ((q + 1 : Nat) : Int) = (q : Int) + 1 := by omega
            rw [hqc] at HCh ⊢
            clear hx hy g1 e4 e1 hZ hX hq hq2 hk1 ha hqc
            go_wp2_with fail
            refine (HCh.out _).mono ?_
            rintro e w4 ⟨rfl, hb4⟩
            have HQ2 := Lib.hid (bthen HQ.out hb4)
            clear hb4
            go_wp2
            go_roundw
            case rel => exact ⟨m + 1, by omega, by go_num, by rw [HN.out.2.1]; go_num, by rw [HN.out.1, HN.out.2.2], HQ2⟩
            case measure => simp [intOf]; omega
        · obtain rfl : m = s.size := by omega
          obtain ⟨X, hX⟩ : ∃ X, r s.size = X := ⟨_, rfl⟩
          rw [hX] at HR ⊢
          have hX6 := HF.out.2.2.2.2.2.1 s.size (Nat.le_refl _)
          rw [hX] at hX6
          have hL := Lib.bitLen_le A 17 (by omega) (by omega)
          have hL2 := len_lt A hA6 (by have := HR.out.2; omega)
          have HD := Lib.hid (degree_any A · hA6)
          obtain ⟨L, hLe⟩ : ∃ L, Lib.bitLen A = L := ⟨_, rfl⟩
          rw [hLe] at hL hL2 HD
          have hup := fb_up (x := X) hL2 (17 - L)
          rw [show L + (17 - L) = 17 by omega, HR.out.1] at hup
          have HI : Hid (X < A % 2 ^ L ∧ fbGo A L X = R) := Lib.hid ⟨by rw [Nat.mod_eq_of_lt hL2]; exact HR.out.2, hup.symm⟩
          have hLc : (K - c s.size : Nat) = 0 := by rw [HF.out.2.2.2.2.2.2.2]; omega
          rw [hLc]
          clear hL2 hup hLe hX hLc HF
          go_wp2_with fail
          refine (HD.out _).mono ?_
          rintro e w5 ⟨rfl, rfl⟩
          go_wp2
          go_loopw [9, 6] (fun i x wr => ∃ (m y : Nat) (z : Int), m ≤ 17 ∧ y ≤ 65536 ∧ z = (m:Int) - 1 ∧ i = .int .i64 z ∧ x = .int .i64 (y : Nat) ∧ Hid (y < A % 2 ^ m ∧ fbGo A m y = R) ∧ Hid (Below w.heap.size w wr)) (fun i _ _ => (intOf i + 1).toNat)
          case atStart => exact ⟨L, X, _, hL, hX6, rfl, rfl, rfl, HI, HQ⟩
          case round =>
            clear HI HQ
            obtain ⟨m, y, z, hm, hy6, hz, rfl, rfl, HI, HQ⟩ := hrel
            cases m with
            | zero =>
              have := HI.out.1
              rw [Nat.pow_zero, Nat.mod_one] at this
              exact absurd this (Nat.not_lt_zero _)
            | succ e =>
              obtain rfl : z = (e:Int) := by omega
              have he0 : (0:Int) ≤ (e:Int) := by omega
              have he1 : (e:Int) ≤ 16 := by omega
              obtain ⟨P, hP, hP6, hP1, hpw, hand⟩ := fb_step (x := y) (e := e) hA6 (by omega)
              have f1 := fun hb => fb_no (A := A) (e := e) hb HI.out.1 HI.out.2
              have f2 := fun hb hl => fb_hit (A := A) (e := e) (x := y) hb hl HI.out.2
              have f3 := fun hb hl => fb_go (A := A) (e := e) hb hl HI.out.1 HI.out.2
              have HP := Lib.hid hP
              rw [hP] at f2 f3
              obtain ⟨β, hβ⟩ : ∃ β, A.testBit e = β := ⟨_, rfl⟩
              rw [hβ] at f1 f2 f3 hand
              clear hz hP hβ HI
              cases β with
              | false =>
                have HN := Lib.hid (f1 rfl)
                simp only [Bool.false_eq_true, if_false] at hand
                clear f1 f2 f3
                go_wp2
                go_roundw
                case rel => exact ⟨e, y, _, Nat.le_of_succ_le hm, hy6, rfl, rfl, rfl, HN, HQ⟩
                case measure => simp [intOf]
              | true =>
                simp only [if_true] at hand
                have hPn := pos_ne hP1
                by_cases hl : y < P
                · have HN := Lib.hid (f2 rfl hl)
                  have hli : (y : Int) < (P : Int) := Int.ofNat_lt.2 hl
                  have HBs := Lib.hid (fun w => bitsOf_any y e w hy6 (Nat.le_of_succ_le_succ hm))
                  clear f1 f2 f3
                  go_wp2_with fail
                  refine (HBs.out _).mono ?_
                  rintro e' w6 ⟨rfl, hb6⟩
                  have Hb6 := Lib.hid (bthen HQ.out hb6)
                  clear hb6
                  go_wp2
                  go_ret2
                  exact ⟨by rw [HN.out]; rfl, Hb6.out⟩
                · have HN := Lib.hid (f3 rfl hl)
                  have hli : ¬ (y : Int) < (P : Int) := fun h => hl (Int.ofNat_lt.1 h)
                  have hyP : (P:Int) ≤ (y:Int) := Int.not_lt.1 hli
                  clear f1 f2 f3
                  go_upto_region 19 with fail
                  rw [hpw]
                  clear hand hpw
                  go_wp2
                  go_roundw
                  case rel =>
                    exact ⟨e, y - P, _, by omega, by omega, rfl, rfl, by go_num, Lib.hid (by rw [HP.out]; exact HN.out), HQ⟩
                  case measure => simp [intOf]
    · have ho : fbOk s = false := by unfold fbOk; rw [decide_eq_false hsz, Bool.and_false]
      rw [show fbT s = [] by unfold fbT; rw [ho]; rfl, ho]
      have H := Lib.hid hB
      have hgt : (16:Int) < (s.size:Int) := by omega
      clear hB ho
      go_enter Tryd.func10, Tryd.ntmps10
      go_wp2_with fail
      refine (isBits_any s _ hs).mono ?_
      rintro e w1 ⟨rfl, hb1⟩
      rw [H.out]
      have Hb := Lib.hid hb1
      clear hb1
      go_wp2
      go_ret2
      exact retTy_no Hb.out
end Go.Proofs.YtjkbldkcjjaonaaDoor

import Derived.Test.YtfageonhlmhhpaaDoorDice
import Derived.Test.YtfageonhlmhhpaaDoorDeg
/- Drawing by rejection: the program and the reference draw the same; the law FnExactRollReject. -/
namespace Go.Proofs.YtfageonhlmhhpaaDoor
open Go.RowKit
set_option linter.unusedVariables false

/-- The number of bits that are drawn for a number below n. -/
def WidthIs (n : Int) (k : Nat) : Prop := k ≤ 20 ∧ n ≤ (2 : Int) ^ k ∧ (k = 0 ∨ (2 : Int) ^ (k - 1) < n)
theorem width_exists (n : Int) (h2 : n ≤ 1000000) : ∃ k, WidthIs n k := by
  have key : ∀ m : Nat, n ≤ (2 : Int) ^ m → m ≤ 20 → ∃ k, WidthIs n k := by
    intro m
    induction m with
    | zero => intro h _; exact ⟨0, by omega, h, Or.inl rfl⟩
    | succ m ih =>
      intro h hm
      by_cases hc : n ≤ (2 : Int) ^ m
      · exact ih hc (by omega)
      · exact ⟨m + 1, hm, h, Or.inr (by simpa using hc)⟩
  exact key 20 (by have : (2 : Int) ^ 20 = 1048576 := by decide
                   omega) (by omega)
theorem bitsFor_any (n : Int) (k : Nat) (w : World) (h1 : 1 ≤ n) (h2 : n ≤ 1000000) (hk : WidthIs n k) :
    Calls Tryd.prog 38 #[.int .i64 n] w fun e w' => e = .returned (.int .i64 (k : Nat)) ∧ w = w' := by
  obtain ⟨ha, hb, hc⟩ := hk
  have e2 : (2 : Int) ^ (k + 1) = 2 * (2 : Int) ^ k := by rw [Int.pow_succ]; omega
  have e1 : (2 : Int) ^ k ≤ 2 * n - 1 := by
    rcases hc with rfl | hc
    · simp; omega
    · obtain ⟨m, rfl⟩ : ∃ m, k = m + 1 := by
        cases k with
        | zero => exact ⟨0, by simp at hc; omega⟩
        | succ m => exact ⟨m, rfl⟩
      have e3 : (2 : Int) ^ (m + 1) = 2 * (2 : Int) ^ m := by rw [Int.pow_succ]; omega
      simp only [Nat.add_sub_cancel] at hc
      omega
  have HD := Lib.hid (degree_at k (2 * n - 1) w (by omega) e1 (by omega) (by omega))
  clear e1 e2 ha hb hc
  go_enter Tryd.func38, Tryd.ntmps38
  go_wp2_with fail
  refine HD.out.mono ?_
  rintro e w' ⟨rfl, rfl⟩
  go_wp2
  go_ret
  exact ⟨rfl, rfl⟩
theorem l06Width_any (n : Int) (k : Nat) (w : World) (h1 : 1 ≤ n) (h2 : n ≤ 1000000) (hk : WidthIs n k) :
    Calls Tryd.prog 37 #[.int .i64 n] w fun e w' => e = .returned (.int .i64 (k : Nat)) ∧ w = w' := by
  have HK := Lib.hid hk
  have hk20 := hk.1
  clear hk
  go_enter Tryd.func37, Tryd.ntmps37
  go_wp2
  go_loop [3] (fun i => ∃ j : Nat, j ≤ k ∧ i = .int .i64 j) (fun i => k - (intOf i).toNat)
  case atStart => exact ⟨0, by omega, rfl⟩
  case round =>
    obtain ⟨j, hj, rfl⟩ := hrel
    have hpw := pow_wrap j (by omega)
    by_cases hlt : j < k
    · have hlow : (2 : Int) ^ j < n := by
        obtain ⟨_, _, hc⟩ := HK.out
        have : (2 : Int) ^ j ≤ (2 : Int) ^ (k - 1) := by exact_mod_cast Nat.pow_le_pow_right (show 0 < 2 by decide) (show j ≤ k - 1 by omega)
        omega
      go_wp2
      go_round
      case rel => exact ⟨j + 1, by omega, by go_num⟩
      case measure => simp [intOf]; omega
    · have hjk : j = k := by omega
      subst hjk
      have hhi : ¬ (2 : Int) ^ j < n := by have := HK.out.2.1; omega
      go_wp2
      go_ret
      exact ⟨rfl, rfl⟩
/-- The number that m bits from a place on spell. -/
def numV (s : ByteArray) (a : Nat) : Nat → Int
  | 0 => 0
  | m + 1 => 2 * numV s a m + bitOf s (a + m)
theorem bitOf01 (s : ByteArray) (k : Nat) : 0 ≤ bitOf s k ∧ bitOf s k ≤ 1 := by unfold bitOf; split <;> omega
theorem numV_bd (s : ByteArray) (a : Nat) : ∀ m, 0 ≤ numV s a m ∧ numV s a m < (2 : Int) ^ m
  | 0 => by simp [numV]
  | m + 1 => by
    have h1 := numV_bd s a m
    have h2 := bitOf01 s (a + m)
    simp only [numV, Int.pow_succ]
    omega
theorem numV_62 (s : ByteArray) (a m : Nat) (hm : m ≤ 62) : 0 ≤ numV s a m ∧ numV s a m < 4611686018427387904 := by
  have h1 := numV_bd s a m
  have h2 := pow_lt62 m hm
  have e : (2 : Int) ^ m = ((2 ^ m : Nat) : Int) := by simp
  rw [e] at h1
  omega
theorem by8_extract (s : ByteArray) (a b i : Nat) (hb : b ≤ s.size) (hi : a + i < b) : by8 (s.extract a b) i = by8 s (a + i) := by
  have hb' : b ≤ s.data.size := hb
  unfold by8
  rw [ByteArray.data_extract]
  unfold List.getD
  congr 1
  rw [Array.getElem?_toList, Array.getElem?_toList, Array.getElem?_extract]
  rw [if_pos (by omega)]
set_option maxHeartbeats 800000 in
theorem numberOf_any (t : ByteArray) (w : World) (hm : t.size ≤ 62) (hb : ∀ k, k < t.size → by8 t k = 48 ∨ by8 t k = 49) :
    Calls Tryd.prog 39 #[.string t] w fun e w' => e = .returned (.int .i64 (numV t 0 t.size)) ∧ w = w' := by
  have HB := Lib.hid hb
  clear hb
  go_enter Tryd.func39, Tryd.ntmps39
  go_wp2
  go_loop [7, 3] (fun i v => ∃ k : Nat, k ≤ t.size ∧ i = .int .i64 k ∧ v = .int .i64 (numV t 0 k)) (fun i _ => t.size - (intOf i).toNat)
  case atStart => exact ⟨0, by omega, rfl, rfl⟩
  case round =>
    obtain ⟨k, hk, rfl, rfl⟩ := hrel
    by_cases hlt : k < t.size
    · have k0 : (0:Int) ≤ (k:Int) := by omega
      have k1 : (k:Int) < (t.size:Int) := by omega
      have hg := get_by8 t k hlt
      have hv := numV_62 t 0 (k + 1) (by omega)
      have hv0 := numV_62 t 0 k (by omega)
      have hs : numV t 0 (k + 1) = 2 * numV t 0 k + bitOf t k := by simp [numV]
      rcases HB.out k hlt with h | h
      · have hgx : ((t[k].toNat : Nat) : Int) = 48 := by rw [hg, h]; rfl
        have hbt : bitOf t k = 0 := by unfold bitOf; rw [h]; decide
        rw [hbt, Int.add_zero] at hs
        obtain ⟨x, hx⟩ : ∃ x, numV t 0 k = x := ⟨_, rfl⟩
        rw [hs, hx] at hv
        rw [hx] at hv0 hs ⊢
        have HS := Lib.hid hs
        clear hg h hbt hs hx
        go_wp2
        go_round
        case rel => exact ⟨k + 1, by omega, by go_num, by rw [HS.out]⟩
        case measure => simp [intOf]; omega
      · have hgx : ((t[k].toNat : Nat) : Int) = 49 := by rw [hg, h]; rfl
        have hbt : bitOf t k = 1 := by unfold bitOf; rw [h]; decide
        rw [hbt] at hs
        obtain ⟨x, hx⟩ : ∃ x, numV t 0 k = x := ⟨_, rfl⟩
        rw [hs, hx] at hv
        rw [hx] at hv0 hs ⊢
        have HS := Lib.hid hs
        clear hg h hbt hs hx
        go_wp2
        go_round
        case rel => exact ⟨k + 1, by omega, by go_num, by rw [HS.out]⟩
        case measure => simp [intOf]; omega
    · have hks : k = t.size := by omega
      subst hks
      go_wp2
      go_ret
      exact ⟨rfl, rfl⟩
theorem numV_extract (s : ByteArray) (a b : Nat) (hb : b ≤ s.size) : ∀ m, a + m ≤ b → numV (s.extract a b) 0 m = numV s a m
  | 0, _ => rfl
  | m + 1, h => by
    simp only [numV]
    rw [numV_extract s a b hb m (by omega)]
    have e : bitOf (s.extract a b) (0 + m) = bitOf s (a + m) := by
      unfold bitOf
      rw [Nat.zero_add, by8_extract s a b m hb (by omega)]
    rw [e]

inductive Rej (n : Int) (s : ByteArray) (k : Nat) : Nat → Int × Int × Bool → Prop where
  | done {a : Nat} : s.size < a + k → Rej n s k a (0, 0, false)
  | hit {a : Nat} : a + k ≤ s.size → numV s a k < n → Rej n s k a (numV s a k, ((a + k : Nat) : Int), true)
  | miss {a : Nat} {r : Int × Int × Bool} : a + k ≤ s.size → ¬ numV s a k < n → Rej n s k (a + k) r → Rej n s k a r
theorem Rej.det {n : Int} {s : ByteArray} {k a : Nat} {r r' : Int × Int × Bool} (h : Rej n s k a r) (h' : Rej n s k a r') : r = r' := by
  induction h with
  | done h1 => cases h' with
    | done => rfl
    | hit h2 => omega
    | miss h2 => omega
  | hit h1 h2 => cases h' with
    | done => omega
    | hit => rfl
    | miss _ h3 => exact absurd h2 h3
  | miss h1 h2 _ ih => cases h' with
    | done => omega
    | hit _ h3 => exact absurd h3 h2
    | miss _ _ h3 => exact ih h3
inductive RejAll (n : Int) (s : ByteArray) (k : Nat) : Int × Int × Bool → Prop where
  | no : (inR n 1 1000000 && isB s) = false → RejAll n s k (0, 0, false)
  | yes {r : Int × Int × Bool} : (inR n 1 1000000 && isB s) = true → Rej n s k 0 r → RejAll n s k r
theorem RejAll.det {n : Int} {s : ByteArray} {k : Nat} {r r' : Int × Int × Bool} (h : RejAll n s k r) (h' : RejAll n s k r') : r = r' := by
  cases h with
  | no h1 => cases h' with
    | no => rfl
    | yes h2 => rw [h1] at h2; cases h2
  | yes h1 h2 => cases h' with
    | no h3 => rw [h1] at h3; cases h3
    | yes _ h3 => exact h2.det h3
def RetRA (n : Int) (s : ByteArray) (k : Nat) (w : World) (e : Ending) (w' : World) : Prop := ∃ r, RejAll n s k r ∧ RetD w r e w'

theorem numV_move {n : Int} {s : ByteArray} {k a : Nat} (hk : WidthIs n k) (hn : 1 ≤ n) (h : ¬ numV s a k < n) : 1 ≤ k := by
  cases k with
  | zero => simp [numV] at h; omega
  | succ k => omega

set_option maxHeartbeats 1600000 in
theorem rollRejectI_any (n : Int) (s : ByteArray) (k : Nat) (w : World) (hs : s.size ≤ maxLen) (hk : n ≤ 1000000 → WidthIs n k) :
    Calls Tryd.prog 17 #[.int .i64 n, .string s] w (RetRA n s k w) := by
  cases hn : inR n 1 1000000 with
  | false =>
    go_enter Tryd.func17, Tryd.ntmps17
    go_wp2_with fail
    refine (isDrawn_any _ _).mono ?_
    rintro e w' ⟨rfl, rfl⟩
    rw [hn]
    go_wp2_with fail
    go_ret3
    exact ⟨_, .no (by rw [hn]; rfl), rfl, Below.refl _ _⟩
  | true =>
    have hnb : 1 ≤ n ∧ n ≤ 1000000 := by simpa [inR] using hn
    have HN := Lib.hid hn
    clear hn
    cases hb : isB s with
    | false =>
      have HB := Lib.hid hb
      clear hb
      go_enter Tryd.func17, Tryd.ntmps17
      go_wp2_with fail
      refine (isDrawn_any _ _).mono ?_
      rintro e w' ⟨rfl, rfl⟩
      rw [HN.out]
      go_wp2_with fail
      refine (isBits_any s _ hs).mono ?_
      rintro e w1 ⟨rfl, hb1⟩
      rw [HB.out]
      go_wp2_with fail
      go_ret3
      exact ⟨_, .no (by rw [HN.out, HB.out]; rfl), rfl, hb1⟩
    | true =>
      have hsz := isB_size hb
      have HB := Lib.hid hb
      obtain ⟨hn1, hn2⟩ := hnb
      have hk20 := (hk hn2).1
      have HK := Lib.hid (hk hn2)
      clear hb hk
      go_enter Tryd.func17, Tryd.ntmps17
      go_wp2_with fail
      refine (isDrawn_any _ _).mono ?_
      rintro e w' ⟨rfl, rfl⟩
      rw [HN.out]
      go_wp2_with fail
      refine (isBits_any s _ hs).mono ?_
      rintro e w1 ⟨rfl, hb1⟩
      rw [HB.out]
      go_wp2_with fail
      refine (bitsFor_any n k _ hn1 hn2 HK.out).mono ?_
      rintro e w' ⟨rfl, rfl⟩
      have HY := Lib.hid (show ∀ r, Rej n s k 0 r → RejAll n s k r from fun r hr => .yes (by rw [HN.out, HB.out]; rfl) hr)
      have Hb1 := Lib.hid hb1
      clear hb1
      go_wp2_with fail
      go_loopw [8] (fun i wr => ∃ a : Nat, a ≤ s.size ∧ i = .int .i64 ((a + k : Nat) : Int) ∧ (∀ r, Rej n s k a r → Rej n s k 0 r) ∧ wr = w1) (fun i _ => s.size + k - (intOf i).toNat)
      case atStart => exact ⟨0, by omega, by simp, fun r h => h, rfl⟩
      case round =>
        obtain ⟨a, ha, rfl, hR, rfl⟩ := hrel
        have HR := Lib.hid hR
        clear hR
        by_cases hle : a + k ≤ s.size
        · have k0 : ((a + k : Nat) : Int) ≤ (s.size : Int) := by omega
          have hsl : (s.extract a (a + k)).size = k := by rw [ByteArray.size_extract]; omega
          have hnum := numV_extract s a (a + k) hle k (Nat.le_refl _)
          have HC := Lib.hid (numberOf_any (s.extract a (a + k)) wr (by omega) (fun i hi => by
            rw [hsl] at hi
            rw [by8_extract s a (a + k) i hle (by omega)]
            have hb := HB.out
            simp only [isB, Bool.and_eq_true] at hb
            exact is01_cases ((all01_iff s).1 hb.2 (a + i) (by omega))))
          have HL := Lib.hid (And.intro hsl hnum)
          clear hsl hnum
          have hbd := numV_62 s a k (by omega)
          have hmv := fun h => numV_move HK.out hn1 (a := a) (s := s) h
          obtain ⟨x, hx⟩ : ∃ x, numV s a k = x := ⟨_, rfl⟩
          rw [hx] at hbd hmv
          have HX := Lib.hid (And.intro hx hmv)
          clear hx hmv
          go_wp2_with fail
          refine HC.out.mono ?_
          rintro e w' ⟨rfl, rfl⟩
          rw [HL.out.1, HL.out.2, HX.out.1]
          by_cases hlt : x < n
          · go_wp2_with fail
            go_ret3
            exact ⟨(x, ((a + k : Nat) : Int), true), HY.out _ (HR.out _ (by rw [← HX.out.1]; exact .hit hle (by rw [HX.out.1]; omega))), rfl, Hb1.out⟩
          · have hk1 := HX.out.2 (by omega)
            go_wp2_with fail
            go_roundw
            case rel => exact ⟨a + k, hle, by go_num, fun r hr => HR.out r (.miss hle (by rw [HX.out.1]; omega) hr), trivial⟩
            case measure => simp [intOf]; omega
        · have k0 : ¬ ((a + k : Nat) : Int) ≤ (s.size : Int) := by omega
          go_wp2_with fail
          go_ret3
          exact ⟨(0, 0, false), HY.out _ (HR.out _ (.done (by omega))), rfl, Hb1.out⟩
set_option maxHeartbeats 1600000 in
theorem rollRejectS_any (n : Int) (s : ByteArray) (k : Nat) (w : World) (hs : s.size ≤ maxLen) (hk : n ≤ 1000000 → WidthIs n k) :
    Calls Tryd.prog 16 #[.int .i64 n, .string s] w (RetRA n s k w) := by
  cases hn : inR n 1 1000000 with
  | false =>
    go_enter Tryd.func16, Tryd.ntmps16
    go_wp2_with fail
    refine (l06Number_any _ _).mono ?_
    rintro e w' ⟨rfl, rfl⟩
    rw [hn]
    go_wp2_with fail
    go_ret3
    exact ⟨_, .no (by rw [hn]; rfl), rfl, Below.refl _ _⟩
  | true =>
    have hnb : 1 ≤ n ∧ n ≤ 1000000 := by simpa [inR] using hn
    have HN := Lib.hid hn
    clear hn
    cases hb : isB s with
    | false =>
      have HB := Lib.hid hb
      clear hb
      go_enter Tryd.func16, Tryd.ntmps16
      go_wp2_with fail
      refine (l06Number_any _ _).mono ?_
      rintro e w' ⟨rfl, rfl⟩
      rw [HN.out]
      go_wp2_with fail
      refine (l01Bits_any s _ hs).mono ?_
      rintro e w1 ⟨rfl, rfl⟩
      rw [HB.out]
      go_wp2_with fail
      go_ret3
      exact ⟨_, .no (by rw [HN.out, HB.out]; rfl), rfl, Below.refl _ _⟩
    | true =>
      have hsz := isB_size hb
      have HB := Lib.hid hb
      obtain ⟨hn1, hn2⟩ := hnb
      have hk20 := (hk hn2).1
      have HK := Lib.hid (hk hn2)
      clear hb hk
      go_enter Tryd.func16, Tryd.ntmps16
      go_wp2_with fail
      refine (l06Number_any _ _).mono ?_
      rintro e w' ⟨rfl, rfl⟩
      rw [HN.out]
      go_wp2_with fail
      refine (l01Bits_any s _ hs).mono ?_
      rintro e w1 ⟨rfl, rfl⟩
      rw [HB.out]
      go_wp2_with fail
      refine (l06Width_any n k _ hn1 hn2 HK.out).mono ?_
      rintro e w' ⟨rfl, rfl⟩
      have HY := Lib.hid (show ∀ r, Rej n s k 0 r → RejAll n s k r from fun r hr => .yes (by rw [HN.out, HB.out]; rfl) hr)
      go_wp2_with fail
      go_loop [8] (fun i => ∃ a : Nat, a ≤ s.size ∧ i = .int .i64 (a : Nat) ∧ (∀ r, Rej n s k a r → Rej n s k 0 r)) (fun i => s.size - (intOf i).toNat)
      case atStart => exact ⟨0, by omega, rfl, fun r h => h⟩
      case round =>
        obtain ⟨a, ha, rfl, hR⟩ := hrel
        have HR := Lib.hid hR
        clear hR
        have a0 : (0:Int) ≤ (a:Int) := by omega
        by_cases hle : a + k ≤ s.size
        · have k0 : (a : Int) + (k : Int) ≤ (s.size : Int) := by omega
          go_wp2_with fail
          go_loop [9, 10] (fun v i => ∃ m : Nat, m ≤ k ∧ v = .int .i64 (numV s a m) ∧ i = .int .i64 ((a + m : Nat) : Int)) (fun _ i => a + k - (intOf i).toNat)
          case atStart => exact ⟨0, by omega, rfl, rfl⟩
          case round =>
            obtain ⟨m, hm, rfl, rfl⟩ := hrel
            by_cases hmk : m < k
            · have m0 : ((a + m : Nat) : Int) < (a : Int) + (k : Int) := by omega
              have m1 : (0:Int) ≤ ((a + m : Nat) : Int) := by omega
              have m2 : ((a + m : Nat) : Int) < (s.size : Int) := by omega
              have hlt : a + m < s.size := by omega
              have hv := numV_62 s a (m + 1) (by omega)
              have hv0 := numV_62 s a m (by omega)
              have hsv : numV s a (m + 1) = 2 * numV s a m + bitOf s (a + m) := rfl
              obtain ⟨hb, hb01⟩ := isB_at HB.out hlt
              have hg := get_by8 s (a + m) hlt
              obtain ⟨x, hx⟩ : ∃ x, numV s a m = x := ⟨_, rfl⟩
              rcases hb01 with hb0 | hb0
              · have hgx : ((s[a + m].toNat : Nat) : Int) = 48 := by rw [hg, hb, hb0]; rfl
                rw [hb0, Int.add_zero] at hsv
                rw [hsv, hx] at hv
                rw [hx] at hv0 hsv ⊢
                have HS := Lib.hid hsv
                clear hb hg hb0 hsv hx
                go_wp2
                go_round
                case rel => exact ⟨m + 1, by omega, by rw [HS.out], by go_num⟩
                case measure => simp [intOf]; omega
              · have hgx : ((s[a + m].toNat : Nat) : Int) = 49 := by rw [hg, hb, hb0]; rfl
                rw [hb0] at hsv
                rw [hsv, hx] at hv
                rw [hx] at hv0 hsv ⊢
                have HS := Lib.hid hsv
                clear hb hg hb0 hsv hx
                go_wp2
                go_round
                case rel => exact ⟨m + 1, by omega, by rw [HS.out], by go_num⟩
                case measure => simp [intOf]; omega
            · have hmk' : m = k := by omega
              subst hmk'
              have hbd := numV_62 s a m (by omega)
              have hmv := fun h => numV_move HK.out hn1 (a := a) (s := s) h
              obtain ⟨x, hx⟩ : ∃ x, numV s a m = x := ⟨_, rfl⟩
              rw [hx] at hbd hmv ⊢
              have HX := Lib.hid (And.intro hx hmv)
              clear hx hmv
              have m0 : ¬ ((a + m : Nat) : Int) < (a : Int) + (m : Int) := by omega
              by_cases hlt : x < n
              · go_wp2
                go_ret3
                exact ⟨(x, ((a + m : Nat) : Int), true), HY.out _ (HR.out _ (by rw [← HX.out.1]; exact .hit hle (by rw [HX.out.1]; omega))), rfl, Below.refl _ _⟩
              · have hk1 := HX.out.2 (by omega)
                go_wp2
                go_round
                case rel => exact ⟨a + m, hle, by go_num, fun r hr => HR.out r (.miss hle (by rw [HX.out.1]; omega) hr)⟩
                case measure => simp [intOf]; omega
        · have k0 : ¬ (a : Int) + (k : Int) ≤ (s.size : Int) := by omega
          go_wp2_with fail
          go_ret3
          exact ⟨(0, 0, false), HY.out _ (HR.out _ (.done (by omega))), rfl, Below.refl _ _⟩
set_option maxHeartbeats 800000 in
theorem fnExactRollReject_walk (n : Int) (s : ByteArray) (w : World) (hs : s.size ≤ maxLen) :
    Calls Tryd.prog 5 #[.int .i64 n, .string s] w fun e w' => e = .returned (.bool true) ∧ Below w.heap.size w w' := by
  obtain ⟨k, hk⟩ : ∃ k, n ≤ 1000000 → WidthIs n k := by
    by_cases h : n ≤ 1000000
    · obtain ⟨k, hk⟩ := width_exists n h
      exact ⟨k, fun _ => hk⟩
    · exact ⟨0, fun h' => absurd h' h⟩
  by_cases hbig : 1048576 < s.size
  · have : (1048576 : Int) < (s.size : Int) := by omega
    go_enter Tryd.func5, Tryd.ntmps5
    go_wp2
    go_ret
    exact ⟨rfl, Below.refl _ _⟩
  · have : ¬ (1048576 : Int) < (s.size : Int) := by omega
    have HK := Lib.hid hk
    clear hk
    go_enter Tryd.func5, Tryd.ntmps5
    go_wp2_with fail
    refine (rollRejectS_any n s k _ hs HK.out).mono ?_
    rintro e w1 ⟨⟨r1, r2, r3⟩, hr, rfl, hb1⟩
    have HR := Lib.hid hr
    clear hr
    go_wp2_with fail
    refine (rollRejectI_any n s k _ hs HK.out).mono ?_
    rintro e w2 ⟨r', hr', rfl, hb2⟩
    obtain rfl := hr'.det HR.out
    clear hr'
    have Hb := Lib.hid (bthen hb1 hb2)
    clear hb1 hb2
    go_wp2_with fail
    go_ret
    exact ⟨rfl, Hb.out⟩
end Go.Proofs.YtfageonhlmhhpaaDoor

import Derived.Test.YtgfkaldndaepfaaDoorAnnS
import Derived.Test.YtgfkaldndaepfaaDoorMapF
import Derived.Test.YtgfkaldndaepfaaDoorU64
import Derived.Test.YtgfkaldndaepfaaDoorWeight
import Derived.Test.YtgfkaldndaepfaaDoorDeg
import Derived.Test.YtgfkaldndaepfaaDoorShelf
/- Whether a half of a table has an annihilator: the program's walk. Condition: the table has at most 6 inputs. -/
namespace Go.Proofs.YtgfkaldndaepfaaDoor
open Go.RowKit Go.Maps
set_option linter.unusedVariables false

/-- How many of the products before u have at most d inputs. -/
def mTo (d : Int) (u : Nat) : Nat := ((List.range u).filter (fun u => decide ((pop6 u : Int) ≤ d))).length
theorem mTo_yes {d : Int} {u : Nat} (h : (pop6 u : Int) ≤ d) : mTo d (u + 1) = mTo d u + 1 := by
  unfold mTo; rw [filter_succ, List.length_append, decide_eq_true h]; rfl
theorem mTo_no {d : Int} {u : Nat} (h : d < (pop6 u : Int)) : mTo d (u + 1) = mTo d u := by
  unfold mTo; rw [filter_succ, List.length_append, decide_eq_false (by omega)]; rfl
theorem mTo_le (d : Int) : ∀ u, mTo d u ≤ u
  | 0 => Nat.le_refl _
  | u + 1 => by
    have := mTo_le d u
    rcases (show d < (pop6 u : Int) ∨ (pop6 u : Int) ≤ d by omega) with h | h
    · rw [mTo_no h]; omega
    · rw [mTo_yes h]; omega
theorem monos_at {k u : Nat} {d : Int} (hu : u < 2 ^ k) (h : (pop6 u : Int) ≤ d) : (monos k d).getD (mTo d u) 0 = u ∧ mTo d u < (monos k d).length := by
  obtain ⟨r, hr⟩ : ∃ r, 2 ^ k = (u + 1) + r := ⟨2 ^ k - (u + 1), by omega⟩
  have e : monos k d = ((List.range u).filter (fun u => decide ((pop6 u : Int) ≤ d)) ++ [u]) ++ ((List.range r).map (fun x => u + 1 + x)).filter (fun u => decide ((pop6 u : Int) ≤ d)) := by
    unfold monos
    rw [hr, List.range_add, List.filter_append, filter_succ, decide_eq_true h]
    rfl
  rw [e]
  unfold mTo
  constructor
  · simp [List.getD]
  · simp only [List.length_append, List.length_singleton]; omega
noncomputable def annB (f : Nat → Bool) (c : Bool) (k : Nat) (d : Int) : Bool := @decide (Ann f c k d) (Classical.propDecidable _)
theorem annB_true {f : Nat → Bool} {c : Bool} {k : Nat} {d : Int} (h : Ann f c k d) : annB f c k d = true := by unfold annB; exact @decide_eq_true _ (Classical.propDecidable _) h
theorem annB_false {f : Nat → Bool} {c : Bool} {k : Nat} {d : Int} (h : ¬ Ann f c k d) : annB f c k d = false := by unfold annB; exact @decide_eq_false _ (Classical.propDecidable _) h
/-- The rows that the elimination begins with. -/
def annR (f : Nat → Bool) (c : Bool) (k : Nat) (d : Int) : Nat → Nat → Bool := fun i x => rowB f c ((monos k d).getD i 0) x
def vB (c : Bool) : Int := if c then 49 else 48
theorem log2_le {x m : Nat} (h : x ≠ 0) (hx : x < 2 ^ m) : x.log2 < m := (Nat.log2_lt h).2 hx
theorem rowT_yes {p : Nat → Bool} {t : Nat} (h : p t = true) : rowT p (t + 1) = rowT p t ||| 2 ^ t := by rw [rowT, h]; rfl
theorem rowT_no {p : Nat → Bool} {t : Nat} (h : p t = false) : rowT p (t + 1) = rowT p t := by rw [rowT, h]; simp
theorem wf_u64 (z : Nat) (h : z < 18446744073709551616) : (Lit.int .u64 (z : Int)).wf = true :=
  WalkArith.wf_u64 ⟨by omega, by omega⟩
theorem pow_64 {x m : Nat} (hm : m ≤ 64) (hx : x < 2 ^ m) : x < 18446744073709551616 := by
  have : (2:Nat) ^ m ≤ 2 ^ 64 := Nat.pow_le_pow_right (by omega) hm
  omega
theorem Tryd.keyI : Keyed Tryd.prog 3 := int_keyed Tryd.underlying3
theorem Tryd.zeroU (w : World) : (zeroValue 42).run Tryd.prog w = .ok (.int .u64 0) w := by kernel_rfl
def OM (w : World) (b n : Nat) (f : Int → Option Int) : Prop := ∃ D : DataW Unit, w.ownsMap Tryd.prog 3 (plainElem Tryd.prog 42) b n D ∧ MapF D f
set_option maxRecDepth 100000 in
set_option maxHeartbeats 1600000 in
theorem hasA_any (s : ByteArray) (c : Bool) (d : Nat) (k : Nat) (w : World) (hk : k < 7) (hsz : s.size = 2 ^ k) (hb : isB s = true) (hd : d ≤ 6) :
    Calls Tryd.prog 24 #[.string s, .int .u8 (vB c), .int .i64 d] w (Ret w (.bool (annB (bitF s) c k d))) := by
  have hmm := @run_makeMap Tryd.prog
  have hs64 : s.size ≤ 64 := by have := pow_le_64 k hk; omega
  obtain ⟨f, hf⟩ : ∃ f, bitF s = f := ⟨_, rfl⟩
  obtain ⟨m, hm⟩ : ∃ m, s.size = m := ⟨_, rfl⟩
  have hbit : ∀ x, x < m → ((by8 s x).toNat : Int) = 48 + (if f x then 1 else 0) := fun x hx => by rw [← hf]; exact isB_byte hb (by omega)
  obtain ⟨r, hr⟩ : ∃ r, annB f c k d = r := ⟨_, rfl⟩
  rw [hf, hr]
  have hyes : DepR (annR f c k d) (monos k d).length (2 ^ k) → r = true := fun h => by rw [← hr]; exact annB_true h
  have hno : ¬ DepR (annR f c k d) (monos k d).length (2 ^ k) → r = false := fun h => by rw [← hr]; exact annB_false h
  have hfull : mTo d (2 ^ k) = (monos k d).length := rfl
  have hat : ∀ u, u < 2 ^ k → (pop6 u : Int) ≤ d → mTo d u < (monos k d).length ∧ ∀ y, annR f c k d (mTo d u) y = rowB f c u y := fun u hu hp => by
    have := monos_at hu hp
    exact ⟨this.2, fun y => by unfold annR; rw [this.1]⟩
  have hpow := Lib.hid (show (2:Nat) ^ k = m by omega)
  rw [hpow.out] at hyes hno hfull hat
  obtain ⟨N, hN⟩ : ∃ N, (monos k d).length = N := ⟨_, rfl⟩
  obtain ⟨R0, hR0⟩ : ∃ R0, annR f c k d = R0 := ⟨_, rfl⟩
  rw [hN] at hyes hno hfull hat
  rw [hR0] at hyes hno hat
  have HY := Lib.hid (And.intro hyes (And.intro hno (And.intro hfull (And.intro hat hbit))))
  have HM := Lib.hid hm
  have hst := Lib.hid (stb_start R0 N m)
  clear hyes hno hfull hat hbit hr hf hsz hb hpow hN hR0
  have hO0 : OM (w.alloc (.map #[] 0)) w.heap.size 0 (fun _ => none) := ⟨_, World.ownsMap_made _ _ _ _, mapF_empty⟩
  have hB0 : Below w.heap.size w (w.alloc (.map #[] 0)) := (Below.refl _ _).alloc (Nat.le_refl _) _
  have HO0 := Lib.hid (And.intro hO0 hB0)
  clear hO0 hB0
  have hsm : (s.size : Int) = (m : Int) := by rw [HM.out]
  go_enter Tryd.func24, Tryd.ntmps24
  go_wp2
  go_loopw [17] (fun i wr => ∃ (u n : Nat) (g : Int → Option Int), u ≤ m ∧ n ≤ u ∧ i = .int .i64 (u : Nat) ∧ Hid (Stb R0 N m (mTo d u) g) ∧ Hid (OM wr w.heap.size n g ∧ Below w.heap.size w wr)) (fun i _ => m - (intOf i).toNat)
  case atStart => exact ⟨0, 0, _, Nat.zero_le _, Nat.le_refl _, rfl, hst, HO0⟩
  case round =>
    clear HO0 hst
    obtain ⟨u, n, g, hu, hnu, rfl, HS, HO⟩ := hrel
    obtain ⟨wa, hwa⟩ : ∃ wa : World, wa = wr := ⟨_, rfl⟩
    subst hwa
    by_cases hlt : u < m
    · have hu0 : (0:Int) ≤ (u:Int) := by omega
      have hui : (u:Int) < (m:Int) := by omega
      have HW := Lib.hid (weight_any u · (by omega))
      obtain ⟨P, hP⟩ : ∃ P, pop6 u = P := ⟨_, rfl⟩
      rw [hP] at HW
      by_cases hPd : (d:Int) < (P:Int)
      · have HN := Lib.hid (mTo_no (d := d) (u := u) (by rw [hP]; exact hPd))
        clear hP
        go_wp2_with fail
        refine (HW.out _).mono ?_
        rintro e w1 ⟨rfl, rfl⟩
        go_wp2
        go_roundw
        case rel => exact ⟨u + 1, n, g, by omega, by omega, by go_num, Lib.hid (by rw [HN.out]; exact HS.out), HO⟩
        case measure => simp [intOf]; omega
      · have hP2 : (P : Int) ≤ (d : Int) := by omega
        have HN := Lib.hid (mTo_yes (d := d) (u := u) (by rw [hP]; exact hP2))
        have HA := Lib.hid (HY.out.2.2.2.1 u hlt (by rw [hP]; exact hP2))
        clear hP
        obtain ⟨t, ht⟩ : ∃ t, mTo d u = t := ⟨_, rfl⟩
        rw [ht] at HN HA HS
        clear ht
        go_wp2_with fail
        refine (HW.out _).mono ?_
        rintro e w1 ⟨rfl, rfl⟩
        go_wp2
        go_loopw [26, 9] (fun i v wr => ∃ x : Nat, x ≤ m ∧ i = .int .i64 (x : Nat) ∧ v = .int .u64 (rowT (rowB f c u) x : Nat) ∧ wr = w1) (fun i _ _ => m - (intOf i).toNat)
        case atStart => exact ⟨0, Nat.zero_le _, rfl, rfl, rfl⟩
        case round =>
          obtain ⟨x, hx, rfl, rfl, rfl⟩ := hrel
          by_cases hxm : x < m
          · have hx0 : (0:Int) ≤ (x:Int) := by omega
            have hxi : (x:Int) < (m:Int) := by omega
            have hg := get_by8 s x (by rw [HM.out]; exact hxm)
            have hb1 := HY.out.2.2.2.2 x hxm
            have hand := and_i64 x u (by omega) (by omega)
            obtain ⟨y, hy⟩ : ∃ y, x &&& u = y := ⟨_, rfl⟩
            rw [hy] at hand
            have hrfl : ∀ b : Bool, (48 + (if b then 1 else 0) : Int) = if b then 49 else 48 := by decide
            rw [hrfl, ← hg] at hb1
            have hrow : rowB f c u x = ((f x == c) && decide (y = u)) := by
              unfold rowB
              rw [hy]
              congr 1
            have hR1 := rowT_lt (rowB f c u) x
            have hR64 := pow_64 (show x ≤ 64 by omega) hR1
            have HR := Lib.hid (And.intro (fun h => rowT_yes (p := rowB f c u) (t := x) h) (fun h => rowT_no (p := rowB f c u) (t := x) h))
            have hp64 : (2:Nat) ^ x < 18446744073709551616 := by
              have := Nat.pow_lt_pow_right (show 1 < 2 by omega) (show x < 64 by omega)
              simpa using this
            have HOR := Lib.hid (show bits .or .u64 (rowT (rowB f c u) x : Nat) (IntKind.u64.wrap ((2:Int) ^ x)) = ((rowT (rowB f c u) x ||| 2 ^ x : Nat) : Int) by
              rw [show ((2:Int) ^ x) = ((2 ^ x : Nat) : Int) by simp, wrap_u64 _ hp64]
              exact or_u64 _ (2 ^ x) hR64 hp64)
            have HROW := Lib.hid hrow
            have HY2 := Lib.hid hy
            clear hg hrfl hR1 hrow hy hp64 hR64
            cases c <;> cases hfx : f x
            all_goals
              rw [hfx] at hb1
              simp only [Bool.false_eq_true, if_false, if_true] at hb1
              simp only [vB, Bool.false_eq_true, if_false, if_true]
            case false.false =>
              by_cases hyu : (y : Int) = (u : Int)
              · have HR2 := Lib.hid (HR.out.1 (by rw [HROW.out, hfx, decide_eq_true (by omega)]; rfl))
                clear hfx HR HROW
                go_wp2
                go_roundw
                case rel => exact ⟨x + 1, by omega, by go_num, by rw [HOR.out, HR2.out], trivial⟩
                case measure => simp [intOf]; omega
              · have HR2 := Lib.hid (HR.out.2 (by rw [HROW.out, hfx, decide_eq_false (by omega)]; rfl))
                clear hfx HR HROW
                go_wp2
                go_roundw
                case rel => exact ⟨x + 1, by omega, by go_num, by rw [HR2.out], trivial⟩
                case measure => simp [intOf]; omega
            case true.true =>
              by_cases hyu : (y : Int) = (u : Int)
              · have HR2 := Lib.hid (HR.out.1 (by rw [HROW.out, hfx, decide_eq_true (by omega)]; rfl))
                clear hfx HR HROW
                go_wp2
                go_roundw
                case rel => exact ⟨x + 1, by omega, by go_num, by rw [HOR.out, HR2.out], trivial⟩
                case measure => simp [intOf]; omega
              · have HR2 := Lib.hid (HR.out.2 (by rw [HROW.out, hfx, decide_eq_false (by omega)]; rfl))
                clear hfx HR HROW
                go_wp2
                go_roundw
                case rel => exact ⟨x + 1, by omega, by go_num, by rw [HR2.out], trivial⟩
                case measure => simp [intOf]; omega
            all_goals
              have HR2 := Lib.hid (HR.out.2 (by rw [HROW.out, hfx]; rfl))
              clear hfx HR HROW
              go_wp2
              go_roundw
              case rel => exact ⟨x + 1, by omega, by go_num, by rw [HR2.out], trivial⟩
              case measure => simp [intOf]; omega
          · obtain rfl : x = m := by omega
            have hR1 := rowT_lt (rowB f c u) x
            have hR64 := pow_64 (show x ≤ 64 by omega) hR1
            have HST := Lib.hid (stb_row (x := rowT (rowB f c u) x) HS.out (fun y hy => by rw [HA.out.2 y, rowT_bit, decide_eq_true hy]; rfl))
            have HTN := Lib.hid HA.out.1
            obtain ⟨T, hT⟩ : ∃ T, rowT (rowB f c u) x = T := ⟨_, rfl⟩
            rw [hT] at hR64 HST hR1 ⊢
            have HR1 := Lib.hid hR1
            clear hT HS hR1 HA
            go_wp2
            go_loopw [9] (fun v wx => ∃ z : Nat, v = .int .u64 (z : Nat) ∧ z < 18446744073709551616 ∧ Hid (z < 2 ^ x) ∧ Hid (Sta R0 N x t g z) ∧ wx = wr) (fun v _ => (intOf v).toNat)
            case atStart => exact ⟨T, rfl, hR64, HR1, HST, rfl⟩
            case round =>
              clear HR1 HST
              obtain ⟨z, rfl, hz64, HZ, HSA, rfl⟩ := hrel
              by_cases hz0 : (0:Int) < (z:Int)
              · have hzn : z ≠ 0 := by omega
                have hlm := log2_le hzn HZ.out
                have hbl := bitLen_at z.log2 z (by omega) (Nat.log2_self_le hzn) Nat.lt_log2_self
                have HL := Lib.hid (fun w => Tryd.bits_Len64 (z : Int) w (by omega) (by omega))
                have hred := fun v => sta_red (v := v) HSA.out HTN.out hzn
                have hnew := sta_new HSA.out hzn hlm
                have hle := Nat.log2_self_le hzn
                obtain ⟨J, hJ⟩ : ∃ J, z.log2 = J := ⟨_, rfl⟩
                rw [hJ] at hlm hbl hred hnew hle
                have HRD := Lib.hid (And.intro hred (And.intro hnew (And.intro hle hbl)))
                clear hred hnew hle hbl hJ
                have hwf : (Lit.int .i64 ((J : Int) + 1)).wf = true := WalkArith.wf_i64 (by omega)
                have hkey : keyOf Tryd.prog 3 (.int .i64 ((J : Int) + 1)) = some (.int .i64 ((J : Int) + 1)) := keyOf_int_mk Tryd.underlying3 hwf
                obtain ⟨D, hown, hMF⟩ := HO.out.1
                have HOW := Lib.hid (And.intro hown hMF)
                have hwu : (Lit.int .u64 (z : Int)).wf = true := wf_u64 z hz64
                have HK := Lib.hid (And.intro hkey hwu)
                clear hown hMF hkey hwf hwu
                cases hg : g ((J : Int) + 1) with
                | none =>
                  have HV := Lib.hid (HRD.out.2.1 hg)
                  have hhas : Maps.has D (.int .i64 ((J : Int) + 1)) = false := by rw [(HOW.out.2.2 _).1, hg]; rfl
                  have HH := Lib.hid hhas
                  clear hg hhas
                  go_wp2_with fail
                  refine (HL.out _).mono ?_
                  rintro e w2 ⟨rfl, rfl⟩
                  rw [show ((z : Nat) : Int).toNat = z from rfl, HRD.out.2.2.2]
                  go_wp2_with (first
                    | (at_lookup; refine wpList_lookup_own_ok_int _ rfl _ _ 49 rfl 3 42 .u64 Tryd.keyI Tryd.underlying49 Tryd.underlying42 (Tryd.zeroU _) w.heap.size n D rfl HOW.out.1 _ _ rfl HK.out.1 ?_; intro c0 hat hwc; rw [HH.out]; clear hat hwc)
                    | (at_mapUpdate; refine wpList_mapUpdate_own _ rfl _ _ _ 49 rfl 3 42 Tryd.keyI Tryd.underlying49 _ w.heap.size n D rfl HOW.out.1 (by unfold maxLen; omega) _ _ _ rfl rfl HK.out.1 _ [] (plainElem_int Tryd.underlying42 HK.out.2) ?_; intro w3 hown1 hgrow1)
                    | fail)
                  have HO3 := Lib.hid (show OM w3 w.heap.size (n + 1) (fun j => if j = (J : Int) + 1 then some (z : Int) else g j) ∧ Below w.heap.size w w3 from ⟨⟨_, hown1, HOW.out.2.put _ _ trivial⟩, HO.out.2.grown hgrow1 HO.out.2.size (fun j hj => by cases hj; exact Nat.le_refl _)⟩)
                  clear hown1 hgrow1
                  go_wp2
                  go_roundw
                  case rel => exact ⟨u + 1, n + 1, _, by omega, by omega, by go_num, Lib.hid (by rw [HN.out]; exact HV.out), HO3⟩
                  case measure => simp [intOf]; omega
                | some v =>
                  have HV := Lib.hid hg
                  clear hg
                  go_wp2_with fail
                  refine (HL.out _).mono ?_
                  rintro e w2 ⟨rfl, rfl⟩
                  rw [show ((z : Nat) : Int).toNat = z from rfl, HRD.out.2.2.2]
                  have hhas : Maps.has D (.int .i64 ((J : Int) + 1)) = true := by rw [(HOW.out.2.2 _).1, HV.out]; rfl
                  have hlit := (HOW.out.2.2 _).2 v HV.out (.lit (.int .u64 0))
                  have HH := Lib.hid (And.intro hhas hlit)
                  clear hhas hlit
                  go_wp2_with (at_lookup; refine wpList_lookup_own_ok_int _ rfl _ _ 49 rfl 3 42 .u64 Tryd.keyI Tryd.underlying49 Tryd.underlying42 (Tryd.zeroU _) w.heap.size n D rfl HOW.out.1 _ _ rfl HK.out.1 ?_; intro c0 hat hwc; rw [HH.out.1])
                  obtain ⟨b, hvb, hb1, hb2, hb3⟩ := HRD.out.1 v HV.out
                  have hcv : c0 = (b : Int) := by
                    have h := HH.out.2
                    rw [hat, hvb] at h
                    injection h with h
                    injection h with _ h
                  subst hcv
                  have hb64 : b < 18446744073709551616 := by
                    have h1 := Nat.lt_log2_self (n := b)
                    rw [hb1] at h1
                    exact pow_64 (m := J + 1) (by omega) h1
                  have hlt2 : z ^^^ b < z := Nat.lt_of_lt_of_le hb2 HRD.out.2.2.1
                  have HX := Lib.hid (xor_u64 z b hz64 hb64)
                  have hzx : z ^^^ b < 2 ^ x := Nat.lt_trans hlt2 HZ.out
                  refine ⟨⟨.int .u64 (bits .xor .u64 z b), _, _, _, _, _, _, _, _, _, _, _, _, _, _, _, _, _, _, _, _, _, ⟨z ^^^ b, by rw [HX.out], by omega, Lib.hid hzx, Lib.hid hb3, trivial⟩, by rw [show decide (d < P) = false from decide_eq_false (by omega)]⟩, ?_⟩
                  show (intOf (.int .u64 (bits .xor .u64 z b))).toNat < z
                  rw [HX.out]
                  exact hlt2
              · have : z = 0 := by omega
                subst this
                have HF := Lib.hid (HY.out.1 (sta_zero HSA.out HTN.out))
                clear HSA HZ
                go_wp2
                go_ret
                exact ⟨by rw [HF.out]; rfl, HO.out.2⟩
    · obtain rfl : u = m := by omega
      have HF := Lib.hid (HY.out.2.1 (stb_end (by have := HS.out; rw [HY.out.2.2.1] at this; exact this)))
      go_wp2
      go_ret
      exact ⟨by rw [HF.out]; rfl, HO.out.2⟩
end Go.Proofs.YtgfkaldndaepfaaDoor

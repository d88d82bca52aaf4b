import Derived.Test.YtflgooogiceliaaDoorR8T
import Derived.Test.YtflgooogiceliaaDoorInputs
/- The laws' helpers on tables: how many bits of a number are 1; how far a table is from a sum of inputs. Condition: the text is a table. -/
namespace Go.Proofs.YtflgooogiceliaaDoor
open Go.RowKit
set_option linter.unusedVariables false

theorem r8Weight_any (m : Nat) (w : World) (hm : m < 64) : Calls Tryd.prog 36 #[.int .i64 (m : Nat)] w fun e w' => e = .returned (.int .i64 (pop6 m : Nat)) ∧ w' = w := by
  obtain ⟨P, hP⟩ : ∃ P, pop6 m = P := ⟨_, rfl⟩
  have hP6 := (pop6_step m hm).2
  rw [hP] at hP6 ⊢
  have HP := Lib.hid hP
  clear hP
  go_enter Tryd.func36, Tryd.ntmps36
  go_wp2
  go_loopw [0, 3] (fun n p wr => ∃ (v b : Nat), v < 64 ∧ b ≤ P ∧ n = .int .i64 (v : Nat) ∧ p = .int .i64 (b : Nat) ∧ wr = w ∧ Hid (b + pop6 v = P)) (fun n _ _ => (intOf n).toNat)
  case atStart => exact ⟨m, 0, hm, by omega, rfl, rfl, rfl, Lib.hid (by rw [HP.out]; omega)⟩
  case round =>
    clear HP
    obtain ⟨v, b, hv, hb, rfl, rfl, rfl, HX⟩ := hrel
    by_cases h0 : 0 < v
    · have h0i : (0:Int) < (v:Int) := by omega
      have hps := (pop6_step v hv).1
      obtain ⟨r, hr⟩ : ∃ r, v % 2 = r := ⟨_, rfl⟩
      have hand : bits .and .i64 (v : Int) 1 = ((r : Nat) : Int) := by
        rw [← hr]
        have := and_i64 v 1 (by omega) (by omega)
        rw [show v &&& 1 = v % 2 from Nat.and_one_is_mod v] at this
        exact this
      obtain ⟨d, hd⟩ : ∃ d, v / 2 = d := ⟨_, rfl⟩
      have hdi : (v : Int) / 2 = ((d : Nat) : Int) := by omega
      rw [hr, hd] at hps
      have h1 := HX.out
      rw [hps] at h1
      have hbP : b + r ≤ P := by omega
      have HX2 := Lib.hid (show (b + r) + pop6 d = P by omega)
      have hd64 : d < 64 := by omega
      have hdv : d < v := by omega
      clear hr hd hps h1
      go_wp2
      go_roundw
      case rel => exact ⟨d, b + r, hd64, hbP, by go_num, by go_num, trivial, HX2⟩
      case measure => simp [intOf]; omega
    · obtain rfl : v = 0 := by omega
      have HY := Lib.hid (show (b : Int) = (P : Int) by
        have h1 := HX.out
        have : pop6 0 = 0 := by decide
        omega)
      go_wp2
      go_ret
      exact ⟨by rw [← HY.out]; rfl, rfl⟩
set_option maxRecDepth 20000 in
set_option maxHeartbeats 3200000 in
theorem r8Differ_any (s : ByteArray) (a : Nat) (e : Bool) (w : World) (hs : s.size ≤ 64) (hb : isB s = true) (ha : a < 64) :
    Calls Tryd.prog 32 #[.string s, .int .i64 (a : Nat), .int .i64 (if e then 1 else 0)] w fun e' w' => e' = .returned (.int .i64 (dfF (bitF s) a e s.size : Nat)) ∧ Below w.heap.size w w' := by
  have hbit : ∀ x, x < s.size → ((by8 s x).toNat : Int) = 48 + (if bitF s x then 1 else 0) := fun x hx => isB_byte hb hx
  obtain ⟨f, hf⟩ : ∃ f, bitF s = f := ⟨_, rfl⟩
  rw [hf] at hbit ⊢
  have HB := Lib.hid hbit
  have x00 : bits .xor .i64 0 0 = 0 := by decide
  have x01 : bits .xor .i64 0 1 = 1 := by decide
  have x10 : bits .xor .i64 1 0 = 1 := by decide
  have x11 : bits .xor .i64 1 1 = 0 := by decide
  have HXX := Lib.hid (And.intro x00 (And.intro x01 (And.intro x10 x11)))
  obtain ⟨D, hD⟩ : ∃ D, dfF f a e s.size = D := ⟨_, rfl⟩
  rw [hD]
  have HD := Lib.hid hD
  clear hbit hf hb hD x00 x01 x10 x11
  obtain ⟨E, hE⟩ : ∃ E : Int, (if e then 1 else 0) = E := ⟨_, rfl⟩
  rw [hE]
  have HE := Lib.hid hE
  clear hE
  go_enter Tryd.func32, Tryd.ntmps32
  go_wp2
  go_loopw [8, 7] (fun x v wr => ∃ (m d : Nat), m ≤ s.size ∧ d ≤ m ∧ x = .int .i64 (m : Nat) ∧ v = .int .i64 (d : Nat) ∧ Hid (dfF f a e m = d) ∧ Hid (Below w.heap.size w wr)) (fun x _ _ => s.size - (intOf x).toNat)
  case atStart => exact ⟨0, 0, Nat.zero_le _, Nat.le_refl _, rfl, rfl, Lib.hid rfl, Lib.hid (Below.refl _ _)⟩
  case round =>
    obtain ⟨m, d, hm, hdm, rfl, rfl, HF, HQ⟩ := hrel
    by_cases hlt : m < s.size
    · have hm0 : (0:Int) ≤ (m:Int) := by omega
      have hmi : (m:Int) < (s.size:Int) := by omega
      have hbx := HB.out m hlt
      rw [← get_by8 s m hlt] at hbx
      have hand : bits .and .i64 (a : Int) (m : Int) = ((a &&& m : Nat) : Int) := and_i64 a m (by omega) (by omega)
      have hq : a &&& m < 64 := Nat.lt_of_le_of_lt Nat.and_le_left ha
      have hpar := par6_pop (a &&& m) hq
      have HW := Lib.hid (fun w => r8Weight_any (a &&& m) w hq)
      have hst : dfF f a e (m + 1) = dfF f a e m + (if f m != xor (par6 (a &&& m)) e then 1 else 0) := rfl
      rw [HF.out] at hst
      obtain ⟨u, hu⟩ : ∃ u, a &&& m = u := ⟨_, rfl⟩
      rw [hu] at hand hpar HW hst
      obtain ⟨P, hP⟩ : ∃ P, pop6 u = P := ⟨_, rfl⟩
      rw [hP] at hpar HW
      obtain ⟨b, hfb⟩ : ∃ b, f m = b := ⟨_, rfl⟩
      obtain ⟨p, hp⟩ : ∃ p, par6 u = p := ⟨_, rfl⟩
      rw [hfb, hp] at hst
      rw [hfb] at hbx
      rw [hp] at hpar
      have hE := HE.out
      clear hu hP hfb hp hq
      obtain ⟨c, hc⟩ : ∃ c : Int, ((s[m]).toNat : Int) = c := ⟨_, rfl⟩
      rw [hc] at hbx
      have hxx := HXX.out
      cases e <;> cases b <;> cases p
      all_goals
        simp only [Bool.false_eq_true, if_false, if_true] at hE hbx
        have hm2 : ((P : Nat) : Int) % 2 = 0 ∨ ((P : Nat) : Int) % 2 = 1 := by omega
        first
          | (have ht : ((P : Nat) : Int).tmod 2 = 0 := by
              rw [Int.tmod_eq_emod_of_nonneg (by omega)]
              have : (P % 2 == 1) = false := hpar.symm
              simp at this; omega)
          | (have ht : ((P : Nat) : Int).tmod 2 = 1 := by
              rw [Int.tmod_eq_emod_of_nonneg (by omega)]
              have : (P % 2 == 1) = true := hpar.symm
              simp at this; omega)
        subst hE hbx
        have HS := Lib.hid hst
        obtain ⟨x00, x01, x10, x11⟩ := hxx
        clear hpar hst hm2
        go_wp2_with fail
        go_quiet ((go_at_call 36; exact Calls.quiet_of_same (HW.out _)))
        go_wp2
        go_roundw
        first
          | (case rel => exact ⟨m + 1, d, by omega, by omega, by go_num, rfl, Lib.hid (by rw [HS.out]; rfl), Lib.hid (bthen HQ.out (drewN_below _ _))⟩)
          | (case rel => exact ⟨m + 1, d + 1, by omega, by omega, by go_num, by go_num, Lib.hid (by rw [HS.out]; rfl), Lib.hid (bthen HQ.out (drewN_below _ _))⟩)
        case measure => simp [intOf]; omega
    · obtain rfl : m = s.size := by omega
      have HV := Lib.hid (show ((d : Nat) : Int) = ((D : Nat) : Int) by rw [← HD.out, HF.out])
      go_wp2
      go_ret
      exact ⟨by rw [← HV.out]; rfl, HQ.out⟩
end Go.Proofs.YtflgooogiceliaaDoor

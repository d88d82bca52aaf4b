import Derived.Test.YtgfkaldndaepfaaDoorNormW
import Derived.Test.YtgfkaldndaepfaaDoorFour2
import Derived.Test.YtgfkaldndaepfaaDoorGrow
import Derived.Test.YtgfkaldndaepfaaDoorLists
/- How a table agrees with itself shifted: the program's walk and the reference's. Condition: the text is a table. -/
namespace Go.Proofs.YtgfkaldndaepfaaDoor
open Go.RowKit
set_option linter.unusedVariables false

def sgV (b : Bool) : Int := if b then -1 else 1
def sgF (s : ByteArray) (x : Nat) : Int := sgV (bitF s x)
theorem sgV_or (b : Bool) : sgV b = 1 ∨ sgV b = -1 := by cases b <;> simp [sgV]
theorem sgF_or (s : ByteArray) (x : Nat) : sgF s x = 1 ∨ sgF s x = -1 := sgV_or _
/-- The numbers of shifts. -/
def shL (s : ByteArray) : List Int := (List.range s.size).map fun a => shf (sgF s) s.size a
theorem shL_len (s : ByteArray) : (shL s).length = s.size := by simp [shL]
theorem shL_at {s : ByteArray} {a : Nat} (h : a < s.size) : (shL s).getD a 0 = shf (sgF s) s.size a := by
  rw [getD_eq _ _ (by rw [shL_len]; exact h)]
  simp [shL]
theorem isum_le {h : Nat → Int} (hh : ∀ x, -1 ≤ h x ∧ h x ≤ 1) : ∀ n : Nat, -(n : Int) ≤ isum h n ∧ isum h n ≤ n
  | 0 => by simp [isum]
  | n + 1 => by
    have h1 := isum_le hh n
    have h2 := hh n
    simp only [isum]
    constructor <;> (push_cast; omega)
theorem sg_mul (f : Nat → Bool) (x y : Nat) : -1 ≤ sgV (f x) * sgV (f y) ∧ sgV (f x) * sgV (f y) ≤ 1 := by
  cases f x <;> cases f y <;> decide
theorem sign_one (w : World) : Calls Tryd.prog 35 #[.int .u8 48] w fun e w' => e = .returned (.int .i64 1) ∧ w' = w := by
  go_enter Tryd.func35, Tryd.ntmps35
  go_wp2
  go_ret
  exact ⟨rfl, rfl⟩
theorem sign_neg (w : World) : Calls Tryd.prog 35 #[.int .u8 49] w fun e w' => e = .returned (.int .i64 (-1)) ∧ w' = w := by
  go_enter Tryd.func35, Tryd.ntmps35
  go_wp2
  go_ret
  exact ⟨rfl, rfl⟩
theorem own_i64 {w wr : World} {v : Value} {n : Nat} {xs : List Int} {z : Int} {v' : Value} {w6 : World} (h : GrowAt w wr 2 v n (xs.map (Value.int .i64))) (hown : w6.ownsRow w.heap.size 2 1 v' (n + 1) (xs.map (Value.int .i64) ++ [.int .i64 z])) (hg : wr.grownBy w6 v.ownBlock) :
    GrowAt w w6 2 v' (n + 1) ((xs ++ [z]).map (Value.int .i64)) := by
  rw [List.map_append]
  exact h.push hown hg
set_option maxRecDepth 20000 in
set_option maxHeartbeats 3200000 in
theorem shifts_any (s : ByteArray) (k : Nat) (w : World) (hk : k < 7) (hs : s.size = 2 ^ k) (hb : isB s = true) :
    Calls Tryd.prog 22 #[.string s] w (RetInts w (shL s)) := by
  have hsz : s.size ≤ 64 := by have := pow_le_64 k hk; omega
  have hat : ∀ a, a < s.size → (shL s).getD a 0 = isum (fun x => sgV (bitF s x) * sgV (bitF s (x ^^^ a))) s.size := fun a ha => shL_at ha
  have hbit : ∀ x, x < s.size → ((by8 s x).toNat : Int) = 48 + (if bitF s x then 1 else 0) := fun x hx => isB_byte hb hx
  have hxr : ∀ x a, x < s.size → a < s.size → x ^^^ a < s.size := fun x a h1 h2 => by rw [hs] at *; exact Nat.xor_lt_two_pow h1 h2
  have hln := shL_len s
  obtain ⟨f, hf⟩ : ∃ f, bitF s = f := ⟨_, rfl⟩
  obtain ⟨L, hL⟩ : ∃ L, shL s = L := ⟨_, rfl⟩
  rw [hf] at hat hbit
  rw [hL] at hat hln ⊢
  have HAT := Lib.hid (And.intro hat (And.intro hln (And.intro hbit hxr)))
  clear hat hln hbit hf hL hs hb hxr
  go_enter Tryd.func22, Tryd.ntmps22
  go_wp2
  go_loopw [10, 3] (fun u v wr => ∃ (m : Nat) (xs : List Int), m ≤ s.size ∧ u = .int .i64 (m : Nat) ∧ Hid (xs = L.take m) ∧ GrowAt w wr 2 v m (xs.map (Value.int .i64))) (fun u _ _ => s.size - (intOf u).toNat)
  case atStart => exact ⟨0, [], Nat.zero_le _, rfl, Lib.hid rfl, GrowAt.start w 2⟩
  case round =>
    obtain ⟨u, xs, hu, rfl, HXS, hG⟩ := hrel
    obtain ⟨wo, rfl⟩ : ∃ wo : World, wo = wr := ⟨_, rfl⟩
    have HG := Lib.hid hG
    clear hG
    by_cases hlt : u < s.size
    · have hu0 : (0:Int) ≤ (u:Int) := by omega
      have hui : (u:Int) < (s.size:Int) := by omega
      go_wp2
      go_loopw [15, 5] (fun x sm wr => ∃ (m : Nat) (z : Int), m ≤ s.size ∧ x = .int .i64 (m : Nat) ∧ sm = .int .i64 z ∧ -64 ≤ z ∧ z ≤ 64 ∧ Hid (z = isum (fun x => sgV (f x) * sgV (f (x ^^^ u))) m) ∧ Hid (GrowAt w wr 2 u3 u (xs.map (Value.int .i64)))) (fun x _ _ => s.size - (intOf x).toNat)
      case atStart => exact ⟨0, 0, Nat.zero_le _, rfl, rfl, by omega, by omega, Lib.hid rfl, HG⟩
      case round =>
        obtain ⟨m, z, hm, rfl, rfl, hz1, hz2, HZ, HG1⟩ := hrel
        by_cases hmu : m < s.size
        · have hm0 : (0:Int) ≤ (m:Int) := by omega
          have hmi : (m:Int) < (s.size:Int) := by omega
          have hxor := xor_i64 m u (by omega) (by omega)
          have hq1 := HAT.out.2.2.2 m u hmu hlt
          have hbz := isum_le (h := fun x => sgV (f x) * sgV (f (x ^^^ u))) (fun x => sg_mul f x (x ^^^ u)) (m + 1)
          have hstep : isum (fun x => sgV (f x) * sgV (f (x ^^^ u))) (m + 1) = z + sgV (f m) * sgV (f (m ^^^ u)) := by rw [HZ.out]; rfl
          have hgx := get_by8 s m hmu
          have hgq := get_by8 s (m ^^^ u) hq1
          have hb1 := HAT.out.2.2.1 m hmu
          have hb2 := HAT.out.2.2.1 (m ^^^ u) hq1
          obtain ⟨I, hI⟩ : ∃ I, isum (fun x => sgV (f x) * sgV (f (x ^^^ u))) (m + 1) = I := ⟨_, rfl⟩
          have HI := Lib.hid hI
          rw [hI] at hstep hbz
          rw [hstep] at hbz
          have HS := Lib.hid hstep
          obtain ⟨q, hq⟩ : ∃ q, m ^^^ u = q := ⟨_, rfl⟩
          have hfq : f (m ^^^ u) = f q := by rw [hq]
          rw [hfq] at hbz HS hb2
          rw [hq] at hxor hq1 hb2
          have hgq2 : s[q] = by8 s q := get_by8 s q hq1
          have hqi : (q:Int) < (s.size:Int) := by omega
          have hq0 : (0:Int) ≤ (q:Int) := by omega
          have HQ := Lib.hid hq
          have hrfl : ∀ b : Bool, (48 + (if b then 1 else 0) : Int) = if b then 49 else 48 := by decide
          rw [hrfl] at hb1 hb2
          clear hstep hgq hfq hq hrfl hI
          cases hf1 : f m <;> cases hf2 : f q
          all_goals
            rw [hf1, hf2] at hbz HS
            rw [hf1] at hb1
            rw [hf2] at hb2
            simp only [sgV, Bool.false_eq_true, if_false, if_true] at hb1 hb2 hbz HS
            rw [← hgx] at hb1
            rw [← hgq2] at hb2
            clear hgx hgq2 hf1 hf2
            go_wp2_with fail
            go_quiet ((first | (go_at_call 35; exact Calls.quiet_of_same (sign_one _)) | (go_at_call 35; exact Calls.quiet_of_same (sign_neg _))))
            go_wp2
            go_roundw
            case rel => exact ⟨m + 1, _, by omega, by go_num, rfl, by omega, by omega, Lib.hid (by rw [HI.out, HS.out]; rfl), Lib.hid (HG1.out.drewN _)⟩
            case measure => simp [intOf]; omega
        · obtain rfl : m = s.size := by omega
          have HV := Lib.hid (show L.getD u 0 = z by rw [HAT.out.1 u hlt, HZ.out])
          have HG2 := Lib.hid (HG1.out.alloc (.cells #[.int .i64 z] 2))
          go_wp2_with (at_builtin; refine wpList_ap1 rfl (.tmp 32) (.tmp 34) 25 rfl w.heap.size 2 (.int .i64 0) 8 Tryd.underlying25 Tryd.infoI rfl _ u _ rfl HG2.out.1 wr.heap.size (.int .i64 z) rfl (by go_simp) rfl (by omega) (by omega) HG2.out.2.size ?_)
          intro v' w6 hown hgrow _
          have HG3 := Lib.hid (own_i64 HG2.out hown hgrow)
          clear hown hgrow
          go_wp2
          go_roundw
          case rel => exact ⟨u + 1, xs ++ [z], by omega, by go_num, Lib.hid (by rw [take_snoc L u (by rw [HAT.out.2.1]; exact hlt), HXS.out, HV.out]), HG3.out⟩
          case measure => simp [intOf]; omega
    · obtain rfl : u = s.size := by omega
      have hG := HG.out
      rw [HXS.out, List.take_of_length_le (by rw [HAT.out.2.1]; exact Nat.le_refl _)] at hG
      have HR := Lib.hid (RetInts.of_grow hG)
      clear hG
      go_wp2
      go_ret
      exact HR.out
end Go.Proofs.YtgfkaldndaepfaaDoor

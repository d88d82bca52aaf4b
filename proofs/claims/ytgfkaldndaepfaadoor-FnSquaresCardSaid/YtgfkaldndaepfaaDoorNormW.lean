import Derived.Test.YtgfkaldndaepfaaDoorNorm
import Derived.Test.YtgfkaldndaepfaaDoorTabQ
import Derived.Laws.BytesArg
/- The normal form of a table: the program's walk. -/
namespace Go.Proofs.YtgfkaldndaepfaaDoor
open Go.RowKit
set_option linter.unusedVariables false

def bitF (s : ByteArray) (x : Nat) : Bool := by8 s x == 49
theorem bit_facts : ∀ m, m < 64 → ∀ j, j < 6 → m &&& 2 ^ j = (if m.testBit j then 2 ^ j else 0) ∧ (m.testBit j = true → m ^^^ 2 ^ j < m ∧ (m ^^^ 2 ^ j).testBit j = false) := by decide +kernel
theorem nfL_same {f : Nat → Bool} {n j m : Nat} (hj : j < 6) (hn : n ≤ 64) (hm : m < n) (h : m.testBit j = false) : nfL f n j m = nfL f n j (m + 1) := by
  rw [← nfL_set hm]
  refine ext_getD (by simp [nfL_len]) fun y hy => ?_
  have hyn : y < n := by simpa [nfL_len] using hy
  by_cases hmy : m = y
  · subst hmy
    have e : ((nfL f n j m).set m (48 + (if nfF f n (j + 1) m then 1 else 0))).getD m 0 = 48 + (if nfF f n (j + 1) m then 1 else 0) := by simp [List.getD, nfL_len, hm]
    rw [e, nfL_at hyn, nf_step f n j m hj (by omega) hn, h]
    simp
  · have e : ((nfL f n j m).set m (48 + (if nfF f n (j + 1) m then 1 else 0))).getD y 0 = (nfL f n j m).getD y 0 := by simp [List.getD, hmy]
    rw [e]
theorem isB_byte {s : ByteArray} (h : isB s = true) {x : Nat} (hx : x < s.size) : ((by8 s x).toNat : Int) = 48 + (if bitF s x then 1 else 0) := by
  obtain ⟨h1, h2⟩ := isB_at h hx
  rw [h1]
  unfold bitOf bitF
  by_cases e : by8 s x = 49 <;> simp [e]
theorem bytesOf_nf {s : ByteArray} (h : isB s = true) : bytesOf s = nfL (bitF s) s.size 0 0 := by
  refine ext_getD (by simp [bytesOf, nfL_len]) fun y hy => ?_
  have hy' : y < s.size := by simpa [bytesOf] using hy
  rw [nfL_at hy', if_neg (Nat.not_lt_zero y), nf_zero _ _ _ hy', ← isB_byte h hy']
  have hy2 : y < s.data.toList.length := by simpa using hy'
  unfold bytesOf by8
  rw [List.getD, List.getElem?_map, List.getElem?_eq_getElem hy2, List.getD, List.getElem?_eq_getElem hy2]
  rfl
/-- The bytes of the normal form. -/
def nfT (s : ByteArray) (k : Nat) : List Int := nfL (bitF s) s.size k 0
theorem xor_u8 : ∀ a b : Bool, bits .xor .u8 (48 + (if a then 1 else 0)) (48 + (if b then 1 else 0)) = (if xor a b then 1 else 0) := by decide
set_option maxRecDepth 20000 in
set_option maxHeartbeats 1600000 in
theorem normalForm_any (s : ByteArray) (k : Nat) (w : World) (hk : k < 7) (hs : s.size = 2 ^ k) (hb : isB s = true) :
    Calls Tryd.prog 26 #[.string s] w fun e w' => e = .returned (.string (strOfNums (nfT s k))) ∧ Below w.heap.size w w' := by
  have hsz : s.size ≤ 64 := by have := pow_le_64 k hk; omega
  have hcv := run_bytes_of_string (P := Tryd.prog) w 9 22 5 s Tryd.underlying9 Tryd.underlying22 Tryd.underlying5
  have hro := rowF_bytes s 5 (grownCap w s.size 0 5)
  obtain ⟨c, hc⟩ : ∃ c, grownCap w s.size 0 5 = c := ⟨_, rfl⟩
  rw [hc] at hcv hro
  obtain ⟨cp, hcp⟩ : ∃ cp, (bytesRow s c).size = cp := ⟨_, rfl⟩
  obtain ⟨o, ho⟩ : ∃ o, Obj.cells (bytesRow s c) 5 ((bytesRow s c).size, (bytesRow s c).size + 1) = o := ⟨_, rfl⟩
  rw [ho] at hcv hro
  rw [hcp, bytesOf_nf hb] at hro
  obtain ⟨f, hf⟩ : ∃ f, bitF s = f := ⟨_, rfl⟩
  have HN := Lib.hid (show nfT s k = nfL f s.size k 0 by rw [← hf]; rfl)
  rw [hf] at hro
  have HO := Lib.hid hro
  have HS := Lib.hid hs
  clear hs hc hcp ho hro hf
  go_enter Tryd.func26, Tryd.ntmps26
  go_wp2
  go_loopw [4] (fun i wr => ∃ j p : Nat, j ≤ k ∧ Hid (p = 2 ^ j) ∧ i = .int .i64 (p : Nat) ∧ Owns wr w.heap.size [(w.heap.size, rowF 5 cp (nfL f s.size j 0))] ∧ Below w.heap.size w wr) (fun i _ => 128 - (intOf i).toNat)
  case atStart => exact ⟨0, 1, Nat.zero_le _, Lib.hid rfl, rfl, ((Owns.nil w w.heap.size).new (Nat.le_refl _) HO.out).drew, ((Below.refl _ _).alloc (Nat.le_refl _) _).drew⟩
  case round =>
    obtain ⟨j, p, hj, HP, rfl, hO, hbr⟩ := hrel
    obtain ⟨wo, rfl⟩ : ∃ wo : World, wo = wr := ⟨_, rfl⟩
    have hp1 : 1 ≤ p := by rw [HP.out]; exact Nat.one_le_two_pow
    by_cases hjk : j < k
    · have hpn : p < s.size := by rw [HP.out, HS.out]; exact Nat.pow_lt_pow_right (by omega) hjk
      have hpi : (p : Int) < (s.size : Int) := by omega
      have HO1 := Lib.hid hO
      have Hb1 := Lib.hid hbr
      clear hO hbr
      go_wp2
      go_loopw [16] (fun x wr => ∃ m : Nat, m ≤ s.size ∧ x = .int .i64 (m : Nat) ∧ Owns wr w.heap.size [(w.heap.size, rowF 5 cp (nfL f s.size j m))] ∧ Below w.heap.size w wr) (fun x _ => s.size - (intOf x).toNat)
      case atStart => exact ⟨0, Nat.zero_le _, rfl, HO1.out, Hb1.out⟩
      case round =>
        obtain ⟨m, hm, rfl, hO, hbr⟩ := hrel
        by_cases hlt : m < s.size
        · have hm0 : (0:Int) ≤ (m:Int) := by omega
          have hmi : (m:Int) < (s.size:Int) := by omega
          obtain ⟨b1, b2⟩ := bit_facts m (by omega) j (by omega)
          have hand := and_i64 m p (by omega) (by omega)
          rw [HP.out, b1, ← HP.out] at hand
          cases hbit : m.testBit j with
          | false =>
            rw [hbit] at hand
            simp only [Bool.false_eq_true, if_false, Int.natCast_zero] at hand
            have HBit := Lib.hid hbit
            have HO1 := Lib.hid hO
            have Hb1 := Lib.hid hbr
            clear hO hbr hbit b1 b2
            go_wp2
            go_roundw
            case rel => exact ⟨m + 1, by omega, by go_num, by rw [← nfL_same (by omega) hsz hlt HBit.out]; exact HO1.out, Hb1.out⟩
            case measure => simp [intOf]; omega
          | true =>
            rw [hbit] at hand
            simp only [if_true] at hand
            obtain ⟨q, hq⟩ : ∃ q, m ^^^ p = q := ⟨_, rfl⟩
            obtain ⟨c1, c2⟩ := b2 hbit
            rw [← HP.out, hq] at c1 c2
            have hxor := xor_i64 m p (by omega) (by omega)
            rw [hq] at hxor
            have hqi : (q:Int) < (s.size:Int) := by omega
            have hq0 : (0:Int) ≤ (q:Int) := by omega
            have hpne : ((p:Int) != 0) = true := by simp; omega
            have hcm := hO.byteAt 0 rfl m (by rw [nfL_len]; exact hlt)
            have hcq := hO.byteAt 0 rfl q (by rw [nfL_len]; omega)
            have hfm := hO.byteFree 0 rfl m (by rw [nfL_len]; exact hlt)
            rw [nfL_at hlt, if_neg (Nat.lt_irrefl m)] at hcm
            have hq2 : nfF f s.size (j + 1) q = nfF f s.size j q := by
              rw [nf_step f s.size j q (by omega) (by omega) hsz, c2]
              rfl
            rw [nfL_at (show q < s.size by omega), if_pos c1, hq2] at hcq
            have hx8 := xor_u8 (nfF f s.size j m) (nfF f s.size j q)
            have hst := nf_step f s.size j m (by omega) (by omega) hsz
            rw [hbit, if_pos rfl, ← HP.out, hq] at hst
            rw [← hst] at hx8
            obtain ⟨z1, hz1⟩ : ∃ z : Int, 48 + (if nfF f s.size j m then 1 else 0) = z := ⟨_, rfl⟩
            obtain ⟨z2, hz2⟩ : ∃ z : Int, 48 + (if nfF f s.size j q then 1 else 0) = z := ⟨_, rfl⟩
            obtain ⟨z, hz⟩ : ∃ z : Int, (if nfF f s.size (j + 1) m then 1 else 0) = z := ⟨_, rfl⟩
            have hz01 : 0 ≤ z ∧ z ≤ 1 := by rw [← hz]; split <;> omega
            obtain ⟨hz0, hz1'⟩ := hz01
            have hset := nfL_set (f := f) (j := j) hlt
            rw [hz1] at hcm hx8
            rw [hz2] at hcq hx8
            rw [hz] at hx8 hset
            have hO2 := hO.setByte 0 rfl m (48 + z)
            rw [hset] at hO2
            have hw8 : IntKind.u8.wrap (48 + z) = 48 + z := by rw [IntKind.wrap_u8]; omega
            have HO1 := Lib.hid hO2
            have Hb1 := Lib.hid hbr
            clear hO hO2 hbr hbit b1 b2 c1 c2 hq hst hz hz1 hz2 hset
            go_wp2
            go_region
            all_goals (try go_wp2_with fail)
            all_goals
              go_roundw
              case rel => exact ⟨m + 1, by omega, by go_num, HO1.out.drew, (Hb1.out.setCell (p := ⟨w.heap.size, m, none⟩) (Nat.le_refl _) _).drew⟩
              case measure => simp [intOf]; omega
        · obtain rfl : m = s.size := by omega
          rw [nfL_next] at hO
          have HO1 := Lib.hid hO
          have Hb1 := Lib.hid hbr
          clear hO hbr
          go_wp2
          go_roundw
          case rel => exact ⟨j + 1, 2 * p, by omega, Lib.hid (by rw [HP.out, Nat.pow_succ]; omega), by go_num, HO1.out, Hb1.out⟩
          case measure => simp [intOf]; omega
    · obtain rfl : j = k := by omega
      obtain rfl : p = s.size := by rw [HP.out, HS.out]
      have hcb := run_convert_bytes_arg (P := Tryd.prog) wo 22 5 Tryd.underlying22 Tryd.underlying5 w.heap.size 0 s.size c (nfL f s.size j 0) (nfL_len _ _ _ _) (fun i hi => by rw [Nat.zero_add]; exact hO.byteAt 0 rfl i (by rw [nfL_len]; exact hi)) 9 Tryd.underlying9
      obtain ⟨S, hS⟩ : ∃ S, strOfNums (nfL f s.size j 0) = S := ⟨_, rfl⟩
      rw [hS] at hcb
      have HE := Lib.hid hS
      have Hb1 := Lib.hid hbr
      clear hO hbr hS hp1 hjk hj hcv
      go_wp2
      go_ret
      exact ⟨by rw [HN.out, HE.out]; rfl, Hb1.out⟩
end Go.Proofs.YtgfkaldndaepfaaDoor

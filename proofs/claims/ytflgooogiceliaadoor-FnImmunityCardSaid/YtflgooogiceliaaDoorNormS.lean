import Derived.Test.YtflgooogiceliaaDoorNormW
import Derived.Test.YtflgooogiceliaaDoorGrow
/- The normal form of a table: the reference's walk, and the law FnExactNormalForm. Condition: the text is shorter than the model's greatest length. -/
namespace Go.Proofs.YtflgooogiceliaaDoor
open Go.RowKit
set_option linter.unusedVariables false

theorem Tryd.infoB8 : (Tryd.prog.info? 5).map (fun i => (i.zero, i.size, i.bytes)) = some (some (.int .u8 0), 1, 1) := by kernel_rfl
theorem xor_bit : ∀ a b : Bool, bits .xor .u8 (if a then 1 else 0) (if b then 1 else 0) = (if xor a b then 1 else 0) := by decide
theorem nfT_len (s : ByteArray) (k : Nat) : (nfT s k).length = s.size := nfL_len _ _ _ _
theorem nfT_at {s : ByteArray} {k u : Nat} (hk : k < 7) (hs : s.size = 2 ^ k) (hu : u < s.size) : (nfT s k).getD u 0 = 48 + (if nfB (bitF s) u then 1 else 0) := by
  unfold nfT
  rw [nfL_at hu, if_neg (Nat.not_lt_zero u), hs, nf_end _ hk (by rw [← hs]; exact hu)]
set_option maxRecDepth 20000 in
set_option maxHeartbeats 1600000 in
theorem l04Normal_any (s : ByteArray) (k : Nat) (w : World) (hk : k < 7) (hs : s.size = 2 ^ k) (hb : isB s = true) :
    Calls Tryd.prog 57 #[.string s] w fun e w' => e = .returned (.string (strOfNums (nfT s k))) ∧ Below w.heap.size w w' := by
  have hsz : s.size ≤ 64 := by have := pow_le_64 k hk; omega
  obtain ⟨f, hf⟩ : ∃ f, bitF s = f := ⟨_, rfl⟩
  have hat : ∀ u, u < s.size → (nfT s k).getD u 0 = 48 + (if nfB f u then 1 else 0) := fun u hu => by rw [← hf]; exact nfT_at hk hs hu
  have hln := nfT_len s k
  obtain ⟨L, hL⟩ : ∃ L, nfT s k = L := ⟨_, rfl⟩
  rw [hL] at hat hln
  have hbit : ∀ x, x < s.size → ((by8 s x).toNat : Int) = 48 + (if f x then 1 else 0) := fun x hx => by rw [← hf]; exact isB_byte hb hx
  have HAT := Lib.hid (And.intro hat (And.intro hln hbit))
  have HL := Lib.hid hL
  clear hat hln hbit hf hL hs hb
  go_enter Tryd.func57, Tryd.ntmps57
  go_wp2
  go_loopw [4, 3] (fun u v wr => ∃ (m : Nat) (xs : List Int), m ≤ s.size ∧ u = .int .i64 (m : Nat) ∧ Hid (xs = L.take m) ∧ GrowAt w wr 5 v m (xs.map (Value.int .u8))) (fun u _ _ => s.size - (intOf u).toNat)
  case atStart => exact ⟨0, [], Nat.zero_le _, rfl, Lib.hid rfl, GrowAt.start w 5⟩
  case round =>
    obtain ⟨u, xs, hu, rfl, HXS, hG⟩ := hrel
    obtain ⟨wo, rfl⟩ : ∃ wo : World, wo = wr := ⟨_, rfl⟩
    have HG := Lib.hid hG
    clear hG
    by_cases hlt : u < s.size
    · have hu0 : (0:Int) ≤ (u:Int) := by omega
      have hui : (u:Int) < (s.size:Int) := by omega
      go_wp2
      go_loop [6, 5] (fun x sm => ∃ m : Nat, m ≤ u + 1 ∧ x = .int .i64 (m : Nat) ∧ sm = .int .u8 (if xsum (fun x => x &&& u == x) f m then 1 else 0)) (fun x _ => u + 1 - (intOf x).toNat)
      case atStart => exact ⟨0, Nat.zero_le _, rfl, rfl⟩
      case round =>
        obtain ⟨m, hm, rfl, rfl⟩ := hrel
        by_cases hmu : m ≤ u
        · have hm0 : (0:Int) ≤ (m:Int) := by omega
          have hmi : (m:Int) < (s.size:Int) := by omega
          have hand := and_i64 m u (by omega) (by omega)
          have hstep : xsum (fun x => x &&& u == x) f (m + 1) = xor (xsum (fun x => x &&& u == x) f m) ((m &&& u == m) && f m) := rfl
          obtain ⟨r, hr⟩ : ∃ r, m &&& u = r := ⟨_, rfl⟩
          rw [hr] at hand hstep
          by_cases hrm : r = m
          · subst hrm
            have hgx := get_by8 s r (by omega)
            have hbb := HAT.out.2.2 r (by omega)
            have hx8 := xor_bit (xsum (fun x => x &&& u == x) f r) (f r)
            obtain ⟨z0, hz0⟩ : ∃ z : Int, (if xsum (fun x => x &&& u == x) f r then 1 else 0) = z := ⟨_, rfl⟩
            rw [show (r == r) = true from by simp, Bool.true_and] at hstep
            rw [← hstep, hz0] at hx8
            rw [hz0]
            cases hfm : f r with
            | false =>
              rw [hfm] at hbb hx8
              have hgy : ((s[r].toNat : Nat) : Int) = 48 := by rw [hgx, hbb]; rfl
              simp only [Bool.false_eq_true, if_false] at hx8
              have HX := Lib.hid hx8
              clear hgx hbb hstep hz0 hfm
              go_wp2
              go_round
              case rel => exact ⟨r + 1, by omega, by go_num, by rw [← HX.out]⟩
              case measure => simp [intOf]; omega
            | true =>
              rw [hfm] at hbb hx8
              have hgy : ((s[r].toNat : Nat) : Int) = 49 := by rw [hgx, hbb]; rfl
              simp only [if_true] at hx8
              have HX := Lib.hid hx8
              clear hgx hbb hstep hz0 hfm
              go_wp2
              go_round
              case rel => exact ⟨r + 1, by omega, by go_num, by rw [← HX.out]⟩
              case measure => simp [intOf]; omega
          · have h1 : ((r : Int) == (m : Int)) = false := by rw [beq_eq_false_iff_ne]; omega
            have h2 : (r == m) = false := by simpa using hrm
            rw [h2, Bool.false_and, Bool.xor_false] at hstep
            have HX := Lib.hid hstep
            clear hstep hr hrm
            go_wp2
            go_round
            case rel => exact ⟨m + 1, by omega, by go_num, by rw [HX.out]⟩
            case measure => simp [intOf]; omega
        · obtain rfl : m = u + 1 := by omega
          have hv := HAT.out.1 u hlt
          rw [show xsum (fun x => x &&& u == x) f (u + 1) = nfB f u from rfl]
          have h01 : (0:Int) ≤ (if nfB f u then 1 else 0) ∧ (if nfB f u then 1 else 0) ≤ (1:Int) := by split <;> omega
          obtain ⟨z, hz⟩ : ∃ z : Int, (if nfB f u then 1 else 0) = z := ⟨_, rfl⟩
          rw [hz] at hv h01 ⊢
          obtain ⟨h0, h1⟩ := h01
          have HV := Lib.hid hv
          have HG1 := Lib.hid (HG.out.alloc (.cells #[.int .u8 (48 + z)] 5))
          clear hv hz
          go_wp2_with (at_builtin; refine wpList_ap1 rfl (.tmp 30) (.tmp 33) 37 rfl w.heap.size 5 (.int .u8 0) 1 Tryd.underlying37 Tryd.infoB8 rfl _ u _ rfl HG1.out.1 wo.heap.size (.int .u8 (48 + z)) rfl (by go_simp) rfl (by omega) (by omega) HG1.out.2.size ?_)
          intro v' w6 hown hgrow _
          have hG2 := HG1.out.push hown hgrow
          have HG2 : Hid (GrowAt w w6 5 v' (u + 1) ((xs ++ [48 + z]).map (Value.int .u8))) := Lib.hid (by rw [List.map_append]; exact hG2)
          clear hown hgrow hG2
          go_wp2
          go_roundw
          case rel => exact ⟨u + 1, xs ++ [48 + z], by omega, by go_num, Lib.hid (by rw [take_snoc L u (by rw [HAT.out.2.1]; exact hlt), HXS.out, HV.out]), HG2.out⟩
          case measure => simp [intOf]; omega
    · obtain rfl : u = s.size := by omega
      have hG := HG.out.1
      rw [HXS.out, List.take_of_length_le (by rw [HAT.out.2.1]; exact Nat.le_refl _)] at hG
      have hcb := conv_own (P := Tryd.prog) 37 9 Tryd.underlying37 Tryd.underlying5 Tryd.underlying9 hG
      clear hG
      go_wp2
      go_ret
      exact ⟨by rw [HL.out]; rfl, HG.out.2⟩
end Go.Proofs.YtflgooogiceliaaDoor

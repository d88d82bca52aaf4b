import Derived.Test.YtddmglgogjaajaaBits
/- The degree of a number as a polynomial. -/
namespace Go.Proofs.Ytddmglgogjaajaa
open Go.RowKit
set_option linter.unusedVariables false

theorem bitLen_at (k x : Nat) (hk : k < 64) (h1 : 2 ^ k ≤ x) (h2 : x < 2 ^ (k + 1)) : Lib.bitLen x = k + 1 := by
  have h3 : x < 2 ^ 64 := Nat.lt_of_lt_of_le h2 (Nat.pow_le_pow_right (by omega) (by omega))
  have h4 : x / 2 ^ k = 1 := by
    have hp : 0 < 2 ^ k := Nat.two_pow_pos k
    rw [Nat.pow_succ] at h2
    have a : 1 ≤ x / 2 ^ k := (Nat.le_div_iff_mul_le hp).2 (by omega)
    have b : x / 2 ^ k < 2 := (Nat.div_lt_iff_lt_mul hp).2 (by omega)
    omega
  rw [Lib.bitLen_shift k x h1 h3, h4]
  rfl

theorem degree_at (k : Nat) (p : Int) (w : World) (hk : k ≤ 62) (h1 : (2 : Int) ^ k ≤ p) (h2 : p < (2 : Int) ^ (k + 1)) (h3 : p ≤ 9223372036854775807) :
    Calls Try.prog 125 #[.int .i64 p] w fun e w' => e = .returned (.int .i64 (k : Nat)) ∧ w = w' := by
  obtain ⟨x, rfl⟩ := Int.eq_ofNat_of_zero_le (show 0 ≤ p from by have : (0 : Int) < (2 : Int) ^ k := Int.pow_pos (by decide); omega)
  have hb := bitLen_at k x (by omega) (by exact_mod_cast h1) (by exact_mod_cast h2)
  have Hb := Lib.hid hb
  clear hb h1 h2
  have hu : IntKind.u64.wrap (x : Int) = x := by rw [IntKind.wrap_u64]; omega
  go_enter Try.func125, Try.ntmps125
  go_wp2_with fail
  refine (Try.bits_Len64 _ _ (by omega) (by omega)).mono ?_
  rintro e w' ⟨rfl, rfl⟩
  rw [show ((x : Nat) : Int).toNat = x from rfl, Hb.out]
  go_wp2
  go_ret
  exact ⟨by simp, rfl⟩

end Go.Proofs.Ytddmglgogjaajaa

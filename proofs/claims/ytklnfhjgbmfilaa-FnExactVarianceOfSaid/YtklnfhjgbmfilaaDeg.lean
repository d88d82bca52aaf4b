import Derived.Test.YtklnfhjgbmfilaaBits
/- The degree of a number as a polynomial. -/
namespace Go.Proofs.Ytklnfhjgbmfilaa
open Go.RowKit
set_option linter.unusedVariables false

theorem bitLen_at (k x : Nat) (hk : k < 64) (h1 : 2 ^ k ≤ x) (h2 : x < 2 ^ (k + 1)) : Lib.bitLen x = k + 1 := by
  have h3 : x < 2 ^ 64 := Nat.lt_of_lt_of_le h2 (Nat.pow_le_pow_right (by omega) (by omega))
  have h4 : x / 2 ^ k = 1 := by
    have hp : 0 < 2 ^ k := Nat.two_pow_pos k
    rw [Nat.pow_succ] at h2
    have a : 1 ≤ x / 2 ^ k := (Nat.le_div_iff_mul_le hp).2 (by omega)
    have b : x / 2 ^ k < 2 := (Nat.div_lt_iff_lt_mul hp).2 (by omega)
    omega
  rw [Lib.bitLen_shift k x h1 h3, h4]
  rfl


end Go.Proofs.Ytklnfhjgbmfilaa

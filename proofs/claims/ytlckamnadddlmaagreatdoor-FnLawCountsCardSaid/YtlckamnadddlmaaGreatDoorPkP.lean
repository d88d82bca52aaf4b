import Derived.Test.YtlckamnadddlmaaGreatDoorPlP
import GoSem.ClaimKeys
/- A key of a text and a number, told as one text. No condition. -/
namespace Go.Proofs.YtlckamnadddlmaaGreatDoor
set_option linter.unusedVariables false

theorem bytesLE_len : ∀ (w n : Nat), (bytesLE w n).length = w
  | 0, n => rfl
  | w + 1, n => by simp [bytesLE, bytesLE_len w]
theorem bytesLE_inj : ∀ (w n m : Nat), n < 256 ^ w → m < 256 ^ w → bytesLE w n = bytesLE w m → n = m
  | 0, n, m, hn, hm, _ => by simp at hn hm; omega
  | w + 1, n, m, hn, hm, h => by
    simp only [bytesLE, List.cons.injEq] at h
    have h1 := congrArg UInt8.toNat h.1
    rw [UInt8.toNat_ofNat', UInt8.toNat_ofNat'] at h1
    have h2 := bytesLE_inj w (n / 256) (m / 256) (by rw [Nat.div_lt_iff_lt_mul (by decide)]; rw [Nat.pow_succ] at hn; exact hn) (by rw [Nat.div_lt_iff_lt_mul (by decide)]; rw [Nat.pow_succ] at hm; exact hm) h.2
    have h3 : n % 256 % 2 ^ 8 = n % 256 := Nat.mod_eq_of_lt (Nat.lt_of_lt_of_le (Nat.mod_lt _ (by decide)) (by decide))
    have h4 : m % 256 % 2 ^ 8 = m % 256 := Nat.mod_eq_of_lt (Nat.lt_of_lt_of_le (Nat.mod_lt _ (by decide)) (by decide))
    rw [h3, h4] at h1
    have e1 := Nat.div_add_mod n 256
    have e2 := Nat.div_add_mod m 256
    omega
theorem bytesBE_len (w n : Nat) : (bytesBE w n).length = w := by unfold bytesBE; rw [List.length_reverse, bytesLE_len]
theorem bytesBE_inj {w n m : Nat} (hn : n < 256 ^ w) (hm : m < 256 ^ w) (h : bytesBE w n = bytesBE w m) : n = m :=
  bytesLE_inj w n m hn hm (List.reverse_inj.1 h)
/-- The key. -/
def plKey (p : List UInt8 × Nat) : Lit := .string (keyBytes [.string p.1, .int .i64 (p.2 : Nat)])
theorem plKey_form (p : List UInt8 × Nat) (h : p.2 < 9223372036854775808) : plKey p = .string (bytesBE 8 p.1.length ++ p.1 ++ bytesBE 8 p.2) := by
  unfold plKey keyBytes
  simp only [List.flatMap_cons, List.flatMap_nil, Lit.keyBytes, List.append_nil]
  congr 3
  show ((p.2 : Int) % 2 ^ 64).toNat = p.2
  omega
theorem plKey_inj {p q : List UInt8 × Nat} (hp : p.2 < 9223372036854775808) (hq : q.2 < 9223372036854775808) (h : plKey p = plKey q) : p = q := by
  rw [plKey_form p hp, plKey_form q hq] at h
  injection h with h
  have hl : p.1.length = q.1.length := by
    have := congrArg List.length h
    simp only [List.length_append, bytesBE_len] at this
    omega
  have h1 := List.append_inj h (by simp only [List.length_append, bytesBE_len]; omega)
  have h2 := List.append_inj h1.1 (by simp only [bytesBE_len])
  have h3 := bytesBE_inj (by omega) (by omega) h1.2
  exact Prod.ext h2.2 h3
end Go.Proofs.YtlckamnadddlmaaGreatDoor

import Derived.Test.YtaneocedklnajaaGreatOne
import Derived.Test.YtaneocedklnajaaGreatShelf
import Derived.Shelf.Strings.SlTrimAscii
/- Texts of bits: the program's test by Trim and the reference's loop. -/
namespace Go.Proofs.YtaneocedklnajaaGreat
open Go.RowKit
set_option linter.unusedVariables false

def is01 (b : UInt8) : Bool := b == 48 || b == 49
def all01 (s : ByteArray) : Bool := s.data.toList.all is01
def isB (s : ByteArray) : Bool := decide (s.size ≤ 400) && all01 s

def by8 (s : ByteArray) (k : Nat) : UInt8 := s.data.toList.getD k 0
theorem get_by8 (s : ByteArray) (k : Nat) (h : k < s.size) : s[k] = by8 s k := by
  have h' : k < s.data.size := h
  have h2 : k < s.data.toList.length := by simpa using h'
  unfold by8
  rw [List.getD, List.getElem?_eq_getElem h2]
  rfl
theorem all01_iff (s : ByteArray) : all01 s = true ↔ ∀ k, k < s.size → is01 (by8 s k) = true := by
  unfold all01
  rw [List.all_eq_true]
  constructor
  · intro h k hk
    have hk' : k < s.data.toList.length := by simpa using hk
    have e : by8 s k = s.data.toList[k] := by unfold by8; rw [List.getD, List.getElem?_eq_getElem hk']; rfl
    rw [e]
    exact h _ (List.getElem_mem hk')
  · intro h b hb
    obtain ⟨k, hk, rfl⟩ := List.mem_iff_getElem.1 hb
    have hk2 : k < s.size := by simpa using hk
    have e : by8 s k = s.data.toList[k] := by unfold by8; rw [List.getD, List.getElem?_eq_getElem hk]; rfl
    rw [← e]
    exact h k hk2
/-- The bit at a place. -/
def bitOf (s : ByteArray) (k : Nat) : Int := if by8 s k = 49 then 1 else 0
theorem is01_cases {b : UInt8} (h : is01 b = true) : b = 48 ∨ b = 49 := by simpa [is01] using h
theorem is01_nat (b : UInt8) : is01 b = decide (((b.toNat : Nat) : Int) = 48 ∨ ((b.toNat : Nat) : Int) = 49) := by
  have h1 : (b = 48) ↔ ((b.toNat : Nat) : Int) = 48 := ⟨fun h => by subst h; rfl, fun h => UInt8.toNat_inj.1 (show b.toNat = 48 by omega)⟩
  have h2 : (b = 49) ↔ ((b.toNat : Nat) : Int) = 49 := ⟨fun h => by subst h; rfl, fun h => UInt8.toNat_inj.1 (show b.toNat = 49 by omega)⟩
  unfold is01
  simp only [← h1, ← h2]
  by_cases a : b = 48 <;> by_cases c : b = 49 <;> simp [a, c]
theorem isB_at {s : ByteArray} (h : isB s = true) {k : Nat} (hk : k < s.size) : ((by8 s k).toNat : Int) = 48 + bitOf s k ∧ (bitOf s k = 0 ∨ bitOf s k = 1) := by
  simp only [isB, Bool.and_eq_true] at h
  rcases is01_cases ((all01_iff s).1 h.2 k hk) with e | e
  · unfold bitOf; rw [e]; decide
  · unfold bitOf; rw [e]; decide
theorem isB_size {s : ByteArray} (h : isB s = true) : s.size ≤ 400 := by
  simp only [isB, Bool.and_eq_true, decide_eq_true_eq] at h
  exact h.1

theorem dropWhile_nil_iff (p : UInt8 → Bool) : ∀ l : List UInt8, (l.dropWhile p).isEmpty = l.all p
  | [] => rfl
  | b :: l => by
    cases h : p b with
    | true => simp [h, dropWhile_nil_iff p l]
    | false => simp [h]
theorem all_dropWhile (p : UInt8 → Bool) : ∀ l : List UInt8, (l.dropWhile p).all p = l.all p
  | [] => rfl
  | b :: l => by
    cases h : p b with
    | true => simp [h, all_dropWhile p l]
    | false => simp [h]
theorem trim_empty (l : List UInt8) : (Lib.trimS l [48, 49]).isEmpty = l.all is01 := by
  unfold Lib.trimS Lib.trimLeftS Lib.trimRightS
  rw [dropWhile_nil_iff, List.all_reverse, all_dropWhile, List.all_reverse]
  congr 1
  funext b
  simp [is01, Bool.beq_eq_decide_eq]

end Go.Proofs.YtaneocedklnajaaGreat
/- The degree of a number as a polynomial. -/
namespace Go.Proofs.YtaneocedklnajaaGreat
open Go.RowKit
set_option linter.unusedVariables false

theorem bitLen_at (k x : Nat) (hk : k < 64) (h1 : 2 ^ k ≤ x) (h2 : x < 2 ^ (k + 1)) : Lib.bitLen x = k + 1 := by
  have h3 : x < 2 ^ 64 := Nat.lt_of_lt_of_le h2 (Nat.pow_le_pow_right (by omega) (by omega))
  have h4 : x / 2 ^ k = 1 := by
    have hp : 0 < 2 ^ k := Nat.two_pow_pos k
    rw [Nat.pow_succ] at h2
    have a : 1 ≤ x / 2 ^ k := (Nat.le_div_iff_mul_le hp).2 (by omega)
    have b : x / 2 ^ k < 2 := (Nat.div_lt_iff_lt_mul hp).2 (by omega)
    omega
  rw [Lib.bitLen_shift k x h1 h3, h4]
  rfl


end Go.Proofs.YtaneocedklnajaaGreat

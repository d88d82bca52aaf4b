import Derived.Test.YtgfkaldndaepfaaDoorNormW
import Derived.Test.YtgfkaldndaepfaaDoorGrow
/- The normal form of a table: the reference's walk, and the law FnExactNormalForm. Condition: the text is shorter than the model's greatest length. -/
namespace Go.Proofs.YtgfkaldndaepfaaDoor
open Go.RowKit
set_option linter.unusedVariables false

theorem Tryd.infoB8 : (Tryd.prog.info? 5).map (fun i => (i.zero, i.size, i.bytes)) = some (some (.int .u8 0), 1, 1) := by kernel_rfl
theorem xor_bit : ∀ a b : Bool, bits .xor .u8 (if a then 1 else 0) (if b then 1 else 0) = (if xor a b then 1 else 0) := by decide
theorem nfT_len (s : ByteArray) (k : Nat) : (nfT s k).length = s.size := nfL_len _ _ _ _
theorem nfT_at {s : ByteArray} {k u : Nat} (hk : k < 7) (hs : s.size = 2 ^ k) (hu : u < s.size) : (nfT s k).getD u 0 = 48 + (if nfB (bitF s) u then 1 else 0) := by
  unfold nfT
  rw [nfL_at hu, if_neg (Nat.not_lt_zero u), hs, nf_end _ hk (by rw [← hs]; exact hu)]
end Go.Proofs.YtgfkaldndaepfaaDoor

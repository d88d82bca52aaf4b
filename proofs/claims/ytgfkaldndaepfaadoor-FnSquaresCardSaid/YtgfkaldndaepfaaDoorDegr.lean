import Derived.Test.YtgfkaldndaepfaaDoorImm
import Derived.Test.YtgfkaldndaepfaaDoorNormS
import Derived.Deep.LoopGhost
/- The degree of a table: the program's walk, the reference's, and the law FnExactDegreeOf. Condition: the text is shorter than the model's greatest length. -/
namespace Go.Proofs.YtgfkaldndaepfaaDoor
open Go.RowKit
set_option linter.unusedVariables false

/-- The greatest weight of the places below m that hold. -/
def dgF (g : Nat → Bool) : Nat → Nat
  | 0 => 0
  | m + 1 => if g m then max (dgF g m) (pop6 m) else dgF g m
def dgV (s : ByteArray) : Int := ((dgF (nfB (bitF s)) s.size : Nat) : Int)
/-- A text whose bytes are the signs of 0 and 1 of g. -/
def TxtIs (N : ByteArray) (g : Nat → Bool) : Prop := ∀ m (h : m < N.size), (((N[m]'h).toNat : Nat) : Int) = 48 + (if g m then 1 else 0)
theorem nfT_txt {s : ByteArray} {k : Nat} (hk : k < 7) (hs : s.size = 2 ^ k) : (strOfNums (nfT s k)).size = s.size ∧ TxtIs (strOfNums (nfT s k)) (nfB (bitF s)) := by
  have hsz : (strOfNums (nfT s k)).size = s.size := by rw [strOfNums_size, nfT_len]
  refine ⟨hsz, fun m h => ?_⟩
  have hm : m < s.size := by rw [← hsz]; exact h
  have hL : m < (nfT s k).length := by rw [nfT_len]; exact hm
  have h1 := nfT_at hk hs hm
  rw [get_by8 _ _ h]
  unfold by8
  rw [strOfNums_data]
  have h2 : ((nfT s k).map fun n => UInt8.ofNat n.toNat).getD m 0 = UInt8.ofNat ((nfT s k).getD m 0).toNat := by
    simp [List.getD, List.getElem?_eq_getElem hL]
  rw [h2, h1]
  cases nfB (bitF s) m <;> rfl
set_option maxRecDepth 20000 in
set_option maxHeartbeats 3200000 in
theorem degreeOf_any (s : ByteArray) (w : World) (hs : s.size ≤ maxLen) : Calls Tryd.prog 12 #[.string s] w (RetVal w (isT s) (tabV s (dgV s))) := by
  cases ht : isT s with
  | false =>
    rw [show tabV s (dgV s) = 0 by unfold tabV; rw [ht]; rfl]
    have HT := Lib.hid ht
    clear ht
    go_enter Tryd.func12, Tryd.ntmps12
    go_wp2_with fail
    refine (isTable_any s _ hs).mono ?_
    rintro e w1 ⟨rfl, hb1⟩
    rw [HT.out]
    go_wp2_with fail
    go_ret2
    exact ⟨rfl, hb1⟩
  | true =>
    rw [show tabV s (dgV s) = dgV s by unfold tabV; rw [ht]; rfl]
    obtain ⟨k, hi, hk, hsz, hB⟩ := isT_iff ht
    have hs64 : s.size ≤ 64 := by have := pow_le_64 k hk; omega
    have hv : dgV s = ((dgF (nfB (bitF s)) s.size : Nat) : Int) := rfl
    have HC := Lib.hid (fun w => normalForm_any s k w hk hsz hB)
    obtain ⟨hNs, hNb⟩ := nfT_txt (s := s) hk hsz
    obtain ⟨N, hN⟩ : ∃ N, strOfNums (nfT s k) = N := ⟨_, rfl⟩
    obtain ⟨g, hg⟩ : ∃ g, nfB (bitF s) = g := ⟨_, rfl⟩
    obtain ⟨V, hV⟩ : ∃ V, dgV s = V := ⟨_, rfl⟩
    rw [hN] at HC
    rw [hN] at hNs hNb
    rw [hg] at hNb
    rw [hg] at hv
    rw [hV] at hv ⊢
    rw [← hNs] at hv hs64
    have HT := Lib.hid (And.intro ht (And.intro hv hNb))
    clear ht hi hsz hB hv hV hN hg hNs hNb
    go_enter Tryd.func12, Tryd.ntmps12
    go_wp2_with fail
    refine (isTable_any s _ hs).mono ?_
    rintro e w1 ⟨rfl, hb1⟩
    rw [HT.out.1]
    have Hb1 := Lib.hid hb1
    clear hb1
    go_wp2_with fail
    refine (HC.out _).mono ?_
    rintro e w2 ⟨rfl, hb2⟩
    have HB := Lib.hid (bthen Hb1.out hb2)
    clear hb2 Hb1 HC
    go_wp2
    go_loopg [4] N.size (fun gh be wr => ∃ (m b : Nat), m + gh = N.size ∧ b ≤ 6 ∧ be = .int .i64 (b : Nat) ∧ Hid (dgF g m = b) ∧ wr = w2.iter N m)
    case atStart => exact ⟨0, 0, by omega, by omega, rfl, Lib.hid rfl, rfl⟩
    case round =>
      obtain ⟨m, b, hm, hbb, rfl, HN, rfl⟩ := hrel
      cases gk with
      | zero =>
        obtain rfl : m = N.size := by omega
        have hnx := fun ty => run_next_end (P := Tryd.prog) w2 N N.size ty (Nat.lt_irrefl _)
        have HV := Lib.hid (show ((b : Nat) : Int) = V by rw [HT.out.2.1, HN.out])
        have HB2 := Lib.hid (show Below w.heap.size w (w2.iter N N.size) from HB.out.alloc HB.out.size _)
        go_wp2
        go_ret2
        exact ⟨by rw [← HV.out]; rfl, HB2.out⟩
      | succ gh =>
        have hlt : m < N.size := by omega
        have hst : dgF g (m + 1) = if g m then max (dgF g m) (pop6 m) else dgF g m := rfl
        rw [HN.out] at hst
        have hby := HT.out.2.2 m hlt
        have hrfl : ∀ b : Bool, (48 + (if b then 1 else 0) : Int) = if b then 49 else 48 := by decide
        rw [hrfl] at hby
        have ha : (N[m]'hlt).toNat < 128 := by
          cases hgm : g m <;> simp only [hgm, Bool.false_eq_true, if_false, if_true] at hby <;> omega
        have hnx : ∀ ty, _ := fun ty => run_next_ascii (P := Tryd.prog) w2 N m ty hlt ha
        rw [hby] at hnx
        clear ha hrfl hby
        cases hgm : g m with
        | false =>
          rw [hgm] at hst
          simp only [hgm, Bool.false_eq_true, if_false] at hst hnx
          have HN2 := Lib.hid hst
          clear hgm hst
          go_wp2
          go_roundg gh
          case measure => omega
          case rel => exact ⟨m + 1, b, by omega, hbb, rfl, HN2, rfl⟩
        | true =>
          rw [hgm] at hst
          simp only [hgm, if_true] at hst hnx
          have HW := Lib.hid (fun w => weight_any m w (by omega))
          have hp6 := (pop6_step m (by omega)).2
          obtain ⟨p, hp⟩ : ∃ p, pop6 m = p := ⟨_, rfl⟩
          rw [hp] at HW hst hp6
          obtain ⟨q, hq⟩ : ∃ q, max b p = q := ⟨_, rfl⟩
          have hqi : max (b : Int) (p : Int) = ((q : Nat) : Int) := by omega
          have hq6 : q ≤ 6 := by omega
          rw [hq] at hst
          have HN2 := Lib.hid hst
          clear hp hq hst hgm
          go_wp2_with (first | (go_at_call 27; refine (HW.out _).mono ?_; rintro e w' ⟨rfl, rfl⟩))
          go_roundg gh
          case measure => omega
          case rel => exact ⟨m + 1, q, by omega, hq6, rfl, HN2, rfl⟩
end Go.Proofs.YtgfkaldndaepfaaDoor

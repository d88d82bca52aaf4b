import Derived.Test.YtklnfhjgbmfilaaNat4
import Derived.Test.YtklnfhjgbmfilaaRowLaws
import Derived.Test.YtklnfhjgbmfilaaGrow
import Derived.Test.YtklnfhjgbmfilaaShelf
/- Numbers of any size in memory: a copy of digits, and the number as an int64 if it is small. Conditions: the lengths stay below 2 to the power of 30. -/
namespace Go.Proofs.Ytklnfhjgbmfilaa
open Go.RowKit
set_option linter.unusedVariables false

/-- A call's answer: digits. -/
def RetDigs (w : World) (n : Nat) (ds : List Nat) (e : Ending) (w' : World) : Prop := ∃ a cap, e = .returned (.slice a n cap) ∧ n ≤ cap ∧ IsU32s w' a n ds ∧ Below w.heap.size w w'
theorem own_cap {w : World} {B E : Nat} {a : Option Addr} {n c : Nat} {xs : List Value} (h : w.ownsRow B E 1 (.slice a n c) n xs) : n ≤ c := by
  rcases h.2 with ⟨e, h0⟩ | ⟨g, c', cur, e, hB, ho, hl, _⟩
  · omega
  · simp only [Value.slice.injEq] at e
    obtain ⟨_, _, rfl⟩ := e
    exact hl
set_option maxRecDepth 20000 in
set_option maxHeartbeats 800000 in
theorem natClone_any (b off n c : Nat) (ds : List Nat) (w : World) (hn : n < 1099511627776) (hx : IsU32s w (some ⟨b, off, none⟩) n ds) :
    Calls Try.prog 139 #[.slice (some ⟨b, off, none⟩) n c] w (RetDigs w n ds) := by
  obtain ⟨i0, hi, hz0, hz1, hz2⟩ := info_parts Try.infoU
  have hG := GrowAt.start w 151
  have hnews : ∀ j u, (u32s ds)[j]? = some u → (w.alloc (.cells #[] 151)).cell? ((⟨b, off, none⟩ : Addr).add j) = some u := by
    intro j u hu
    have hj : j < n := by
      have := (List.getElem?_eq_some_iff.1 hu).1
      rw [u32s_len, hx.1] at this
      exact this
    have hxa := hx.below ((Below.refl _ w).alloc (Nat.le_refl _) (.cells #[] 151))
    obtain ⟨b', f', e, hc⟩ := hxa.at hj
    simp only [Option.some.injEq, Addr.mk.injEq] at e
    obtain ⟨rfl, rfl, _⟩ := e
    have hplain : (⟨b, off, none⟩ : Addr).add j = ⟨b, off + j, none⟩ := by unfold Addr.add; split <;> simp_all
    rw [hplain, hc, ← hu]
    simp [u32s, List.getD, List.getElem?_eq_getElem (show j < ds.length by rw [hx.1]; exact hj)]
  have hl : (u32s ds).length = n * 1 := by rw [u32s_len, hx.1]; omega
  have h1 : ∀ u ∈ u32s ds, u.oneCell' = true := by
    intro u hu
    unfold u32s at hu
    obtain ⟨d, _, rfl⟩ := List.mem_map.1 hu
    rfl
  obtain ⟨us, hus⟩ : ∃ us, u32s ds = us := ⟨_, rfl⟩
  rw [hus] at hnews hl h1
  have HD := Lib.hid (And.intro hG (And.intro hnews (And.intro hl (And.intro h1 hus))))
  clear hG hnews hl h1 hus hx
  have heq := Lib.run_eql_slice_nil (P := Try.prog) w 77 151 (some ⟨b, off, none⟩) n c 0 0 Try.underlying77
  go_enter Try.func139, Try.ntmps139
  go_wp2_with (at_builtin; refine wpList_append_own _ rfl (.tmp 5) (.tmp 6) 77 rfl w.heap.size 151 i0 (.int .u32 0) 1 4 Try.underlying77 hi hz0 hz1 hz2 rfl (by decide) _ 0 [] rfl HD.out.1.1 ⟨b, off, none⟩ n c us rfl HD.out.2.2.1 HD.out.2.1 HD.out.2.2.2.1 ?c1 ?c2 ?c3 ?_)
  case c1 => unfold maxLen; omega
  case c2 => omega
  case c3 => exact HD.out.1.2.size
  intro v' w1 hown hgrow _
  have hb1 := below_grown HD.out.1.2 HD.out.1.1 hgrow HD.out.1.2.size
  rw [← HD.out.2.2.2.2] at hown
  obtain ⟨a, c', rfl⟩ := own_form hown
  have H := Lib.hid (And.intro (own_cap hown) (And.intro (IsU32s.of_own hown) hb1))
  clear hown hgrow hb1
  go_wp2
  go_ret
  exact ⟨a, c', rfl, H.out.1, H.out.2.1, H.out.2.2⟩

/-- A call's answer: the number, if it is small. -/
def RetSmall (w : World) (x : Nat) (e : Ending) (w' : World) : Prop := ∃ v : Int, (x ≤ 1000000000000000000 → v = x) ∧ e = .returned (.tuple #[.int .i64 v, .bool (decide (x ≤ 1000000000000000000))]) ∧ w = w'
theorem small_mask (x : Nat) (h : x < 18446744073709551616) : bits .and .u64 (x : Int) 9223372036854775807 = ((x % 9223372036854775808 : Nat) : Int) := by
  rw [show (9223372036854775807 : Int) = ((2 ^ 63 - 1 : Nat) : Int) by decide, and_u64 _ _ h (by decide), Nat.and_two_pow_sub_one_eq_mod]
set_option maxRecDepth 20000 in
set_option maxHeartbeats 1600000 in
theorem natSmall_any (a : Option Addr) (c x : Nat) (w : World) (hx : IsU32s w a (digs x).length (digs x)) (hb1 : (digs x).length < 1073741824) :
    Calls Try.prog 102 #[.slice a (digs x).length c] w (RetSmall w x) := by
  by_cases h2 : (digs x).length ≤ 2
  · have hlt : x < 18446744073709551616 := by
      have h1 := digs_lt x
      have h3 : bse ^ (digs x).length ≤ bse ^ 2 := Nat.pow_le_pow_right bse_pos h2
      have : bse ^ 2 = 18446744073709551616 := by decide
      omega
    have hmask := small_mask x hlt
    have HC := Lib.hid (And.intro hx (And.intro (digs_ok x) (dval_digs x)))
    obtain ⟨xs, hxs⟩ : ∃ xs, digs x = xs := ⟨_, rfl⟩
    rw [hxs] at HC hb1 h2 ⊢
    obtain ⟨m, hm⟩ : ∃ m, xs.length = m := ⟨_, rfl⟩
    rw [hm] at HC hb1 h2 ⊢
    have HL := Lib.hid hm
    obtain ⟨y, hy⟩ : ∃ y, x % 9223372036854775808 = y := ⟨_, rfl⟩
    rw [hy] at hmask
    have hy63 : y < 9223372036854775808 := by omega
    have HY := Lib.hid hy
    clear hx hxs hm hy
    go_enter Try.func102, Try.ntmps102
    go_wp2
    go_loop [12, 4] (fun i n => ∃ k nv : Nat, k ≤ m ∧ i = .int .i64 (k : Nat) ∧ n = .int .u64 (nv : Nat) ∧ Hid (nv = dval (xs.take k))) (fun i _ => m - (intOf i).toNat)
    case atStart => exact ⟨0, 0, Nat.zero_le _, rfl, rfl, Lib.hid rfl⟩
    case round =>
      obtain ⟨k, nv, hk, rfl, rfl, HN⟩ := hrel
      by_cases hlt2 : k < m
      · obtain ⟨b, off, ha, hc1⟩ := HC.out.1.at hlt2
        subst ha
        have hax := dOk_at HC.out.2.1 k
        rw [bse_eq] at hax
        have hs := dval_take_succ xs k
        obtain ⟨ak, hak⟩ : ∃ ak, xs.getD k 0 = ak := ⟨_, rfl⟩
        rw [hak] at hc1 hax hs
        match k, hk, hlt2 with
        | 0, hk, hlt2 =>
          have h0 : nv = 0 := by rw [HN.out]; rfl
          rw [Nat.add_zero] at hc1
          subst h0
          have hor : bits .or .u64 0 (ak : Int) = (ak : Int) := by
            have := or_u64 0 ak (by omega) (by omega)
            simpa using this
          have HS := Lib.hid (show ak = dval (xs.take 1) by rw [hs]; simp [dval])
          have hm0 : (0 : Int) < (m : Int) := by omega
          clear hs hak HN
          go_wp2
          go_round
          case rel => exact ⟨1, ak, by omega, rfl, rfl, HS⟩
          case measure => simp [intOf]; omega
        | 1, hk, hlt2 =>
          have h32 : nv < 4294967296 := by
            rw [HN.out]
            have := dval_lt (dOk_take HC.out.2.1 1)
            rw [List.length_take, Nat.min_eq_left (by have := HL.out; omega)] at this
            simpa [bse] using this
          have hor : bits .or .u64 (nv : Int) ((ak : Int) * 4294967296) = ((nv + 4294967296 * ak : Nat) : Int) := by
            have h3 := or_add (c := nv) (d := ak) (s := 32) (by simpa using h32)
            have h4 := or_u64 nv (2 ^ 32 * ak) (by omega) (by omega)
            rw [h3] at h4
            rw [← h4, Int.natCast_mul, Int.mul_comm]
            rfl
          obtain ⟨t, ht⟩ : ∃ t : Nat, nv + 4294967296 * ak = t := ⟨_, rfl⟩
          rw [ht] at hor
          have htb : t < 18446744073709551616 := by omega
          have HS := Lib.hid (show t = dval (xs.take 2) by rw [hs, ← HN.out, ← ht]; simp [bse])
          have hm0 : (1 : Int) < (m : Int) := by omega
          clear hs hak HN ht
          go_wp2
          go_round
          case rel => exact ⟨2, t, by omega, rfl, rfl, HS⟩
          case measure => simp [intOf]; omega
        | k + 2, hk, hlt2 => omega
      · obtain rfl : k = m := by omega
        obtain rfl : nv = x := by
          rw [HN.out, ← HC.out.2.2, List.take_of_length_le (by rw [HL.out]; exact Nat.le_refl _)]
        by_cases hbig : nv ≤ 1000000000000000000
        · have hb2 : (nv : Int) ≤ 1000000000000000000 := by omega
          go_wp2
          go_ret2
          exact ⟨(y : Int), fun _ => by have := HY.out; omega, by simp [hbig], rfl⟩
        · have hb2 : ¬ (nv : Int) ≤ 1000000000000000000 := by omega
          go_wp2
          go_ret2
          exact ⟨(y : Int), fun h => absurd h hbig, by simp [hbig], rfl⟩
  · have hbig : ¬ x ≤ 1000000000000000000 := by
      have hx0 : x ≠ 0 := fun e => by subst e; simp [digs_zero] at h2
      have h1 := digs_ge hx0
      have h3 : bse ^ 2 ≤ bse ^ ((digs x).length - 1) := Nat.pow_le_pow_right bse_pos (by omega)
      have : bse ^ 2 = 18446744073709551616 := by decide
      omega
    obtain ⟨m, hm⟩ : ∃ m, (digs x).length = m := ⟨_, rfl⟩
    rw [hm] at hb1 h2 ⊢
    have h2' : (2 : Int) < (m : Int) := by omega
    clear hx hm
    go_enter Try.func102, Try.ntmps102
    go_wp2
    go_ret2
    exact ⟨0, fun h => absurd h hbig, by simp [hbig], rfl⟩
theorem bitLen_log {d : Nat} (h0 : d ≠ 0) (h1 : d < 4294967296) : ∃ k, k ≤ 31 ∧ 2 ^ k ≤ d ∧ d < 2 ^ (k + 1) := by
  refine ⟨Nat.log2 d, ?_, Nat.log2_self_le h0, Nat.lt_log2_self⟩
  have : Nat.log2 d < 32 := (Nat.log2_lt h0).2 h1
  omega
/-- The shift that makes the greatest digit great. -/
theorem norm_shift {y : Nat} (hy : y ≠ 0) : ∃ k s : Nat, k + s = 31 ∧ 2 ^ k ≤ (digs y).getD ((digs y).length - 1) 0 ∧ (digs y).getD ((digs y).length - 1) 0 < 2 ^ (k + 1) ∧ 2 ^ s * y < bse ^ (digs y).length ∧ bse ^ (digs y).length ≤ 2 * (2 ^ s * y) := by
  have hd := digs_last y hy
  have hp := digs_len_pos (Nat.pos_of_ne_zero hy)
  obtain ⟨k, hk, h1, h2⟩ := bitLen_log hd (dOk_at (digs_ok y) _)
  have h3 := dval_take_succ (digs y) ((digs y).length - 1)
  rw [show (digs y).length - 1 + 1 = (digs y).length from by omega, List.take_length, dval_digs] at h3
  have h4 := dval_lt (dOk_take (digs_ok y) ((digs y).length - 1))
  rw [List.length_take, Nat.min_eq_left (by omega)] at h4
  obtain ⟨n, hn⟩ : ∃ n, (digs y).length = n + 1 := ⟨(digs y).length - 1, by omega⟩
  rw [hn] at h3 h4 h1 h2 ⊢
  simp only [Nat.add_sub_cancel] at h3 h4 h1 h2 ⊢
  generalize (digs y).getD n 0 = d at *
  generalize dval ((digs y).take n) = r at *
  obtain ⟨s, hs⟩ : ∃ s, k + s = 31 := ⟨31 - k, by omega⟩
  refine ⟨k, s, hs, h1, h2, ?_, ?_⟩
  · have e1 : 2 ^ s * 2 ^ (k + 1) = bse := by rw [← Nat.pow_add, show s + (k + 1) = 32 from by omega]; rfl
    have e2 : y + 1 ≤ bse ^ n * 2 ^ (k + 1) := by
      have : bse ^ n * (d + 1) ≤ bse ^ n * 2 ^ (k + 1) := Nat.mul_le_mul_left _ h2
      rw [Nat.mul_add] at this
      omega
    have e3 : 2 ^ s * (y + 1) ≤ 2 ^ s * (bse ^ n * 2 ^ (k + 1)) := Nat.mul_le_mul_left _ e2
    have e4 : 2 ^ s * (bse ^ n * 2 ^ (k + 1)) = bse ^ (n + 1) := by rw [Nat.pow_succ, ← e1]; grind
    have e5 := Nat.two_pow_pos s
    rw [Nat.mul_add] at e3
    omega
  · have e1 : 2 * (2 ^ s * 2 ^ k) = bse := by rw [← Nat.pow_add, show s + k = 31 from by omega]; rfl
    have e2 : bse ^ n * 2 ^ k ≤ y := by
      have : bse ^ n * 2 ^ k ≤ bse ^ n * d := Nat.mul_le_mul_left _ h1
      omega
    have e3 : 2 * (2 ^ s * (bse ^ n * 2 ^ k)) ≤ 2 * (2 ^ s * y) := Nat.mul_le_mul_left _ (Nat.mul_le_mul_left _ e2)
    have e4 : 2 * (2 ^ s * (bse ^ n * 2 ^ k)) = bse ^ (n + 1) := by rw [Nat.pow_succ, ← e1]; grind
    omega
end Go.Proofs.Ytklnfhjgbmfilaa

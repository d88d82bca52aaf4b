import Derived.Test.YtaneocedklnajaaGreatNatX
import Derived.Test.YtaneocedklnajaaGreatOwnX
import Derived.Test.YtaneocedklnajaaGreatShelf
/- Numbers of any size in memory: a copy of digits, and the number as an int64 if it is small. Conditions: the lengths stay below 2 to the power of 30. -/
namespace Go.Proofs.YtaneocedklnajaaGreat
open Go.RowKit
set_option linter.unusedVariables false

/-- A call's answer: digits. -/
def RetDigs (w : World) (n : Nat) (ds : List Nat) (e : Ending) (w' : World) : Prop := ∃ a cap, e = .returned (.slice a n cap) ∧ n ≤ cap ∧ IsU32s w' a n ds ∧ Below w.heap.size w w'
theorem own_cap {w : World} {B E : Nat} {a : Option Addr} {n c : Nat} {xs : List Value} (h : w.ownsRow B E 1 (.slice a n c) n xs) : n ≤ c := by
  rcases h.2 with ⟨e, h0⟩ | ⟨g, c', cur, e, hB, ho, hl, _⟩
  · omega
  · simp only [Value.slice.injEq] at e
    obtain ⟨_, _, rfl⟩ := e
    exact hl
set_option maxRecDepth 20000 in
set_option maxHeartbeats 800000 in
theorem natClone_any (b off n c : Nat) (ds : List Nat) (w : World) (hn : n < 1099511627776) (hx : IsU32s w (some ⟨b, off, none⟩) n ds) :
    Calls Tryz.prog 140 #[.slice (some ⟨b, off, none⟩) n c] w (RetDigs w n ds) := by
  obtain ⟨i0, hi, hz0, hz1, hz2⟩ := info_parts Tryz.infoU
  have hG := GrowAt.start w 131
  have hnews : ∀ j u, (u32s ds)[j]? = some u → (w.alloc (.cells #[] 131)).cell? ((⟨b, off, none⟩ : Addr).add j) = some u := by
    intro j u hu
    have hj : j < n := by
      have := (List.getElem?_eq_some_iff.1 hu).1
      rw [u32s_len, hx.1] at this
      exact this
    have hxa := hx.below ((Below.refl _ w).alloc (Nat.le_refl _) (.cells #[] 131))
    obtain ⟨b', f', e, hc⟩ := hxa.at hj
    simp only [Option.some.injEq, Addr.mk.injEq] at e
    obtain ⟨rfl, rfl, _⟩ := e
    have hplain : (⟨b, off, none⟩ : Addr).add j = ⟨b, off + j, none⟩ := by unfold Addr.add; split <;> simp_all
    rw [hplain, hc, ← hu]
    simp [u32s, List.getD, List.getElem?_eq_getElem (show j < ds.length by rw [hx.1]; exact hj)]
  have hl : (u32s ds).length = n * 1 := by rw [u32s_len, hx.1]; omega
  have h1 : ∀ u ∈ u32s ds, u.oneCell' = true := by
    intro u hu
    unfold u32s at hu
    obtain ⟨d, _, rfl⟩ := List.mem_map.1 hu
    rfl
  obtain ⟨us, hus⟩ : ∃ us, u32s ds = us := ⟨_, rfl⟩
  rw [hus] at hnews hl h1
  have HD := Lib.hid (And.intro hG (And.intro hnews (And.intro hl (And.intro h1 hus))))
  clear hG hnews hl h1 hus hx
  have heq := Lib.run_eql_slice_nil (P := Tryz.prog) w 64 131 (some ⟨b, off, none⟩) n c 0 0 Tryz.underlying64
  go_enter Tryz.func140, Tryz.ntmps140
  go_wp2_with (at_builtin; refine wpList_append_own _ rfl (.tmp 5) (.tmp 6) 64 rfl w.heap.size 131 i0 (.int .u32 0) 1 4 Tryz.underlying64 hi hz0 hz1 hz2 rfl (by decide) _ 0 [] rfl HD.out.1.1 ⟨b, off, none⟩ n c us rfl HD.out.2.2.1 HD.out.2.1 HD.out.2.2.2.1 ?c1 ?c2 ?c3 ?_)
  case c1 => unfold maxLen; omega
  case c2 => omega
  case c3 => exact HD.out.1.2.size
  intro v' w1 hown hgrow _
  have hb1 := below_grown HD.out.1.2 HD.out.1.1 hgrow HD.out.1.2.size
  rw [← HD.out.2.2.2.2] at hown
  obtain ⟨a, c', rfl⟩ := own_form hown
  have H := Lib.hid (And.intro (own_cap hown) (And.intro (IsU32s.of_own hown) hb1))
  clear hown hgrow hb1
  go_wp2
  go_ret
  exact ⟨a, c', rfl, H.out.1, H.out.2.1, H.out.2.2⟩

/-- A call's answer: the number, if it is small. -/
def RetSmall (w : World) (x : Nat) (e : Ending) (w' : World) : Prop := ∃ v : Int, (x ≤ 1000000000000000000 → v = x) ∧ e = .returned (.tuple #[.int .i64 v, .bool (decide (x ≤ 1000000000000000000))]) ∧ w = w'
theorem small_mask (x : Nat) (h : x < 18446744073709551616) : bits .and .u64 (x : Int) 9223372036854775807 = ((x % 9223372036854775808 : Nat) : Int) := by
  rw [show (9223372036854775807 : Int) = ((2 ^ 63 - 1 : Nat) : Int) by decide, and_u64 _ _ h (by decide), Nat.and_two_pow_sub_one_eq_mod]
set_option maxRecDepth 20000 in
set_option maxHeartbeats 1600000 in
theorem natSmall_any (a : Option Addr) (c x : Nat) (w : World) (hx : IsU32s w a (digs x).length (digs x)) (hb1 : (digs x).length < 1073741824) :
    Calls Tryz.prog 82 #[.slice a (digs x).length c] w (RetSmall w x) := by
  by_cases h2 : (digs x).length ≤ 2
  · have hlt : x < 18446744073709551616 := by
      have h1 := digs_lt x
      have h3 : bse ^ (digs x).length ≤ bse ^ 2 := Nat.pow_le_pow_right bse_pos h2
      have : bse ^ 2 = 18446744073709551616 := by decide
      omega
    have hmask := small_mask x hlt
    have HC := Lib.hid (And.intro hx (And.intro (digs_ok x) (dval_digs x)))
    obtain ⟨xs, hxs⟩ : ∃ xs, digs x = xs := ⟨_, rfl⟩
    rw [hxs] at HC hb1 h2 ⊢
    obtain ⟨m, hm⟩ : ∃ m, xs.length = m := ⟨_, rfl⟩
    rw [hm] at HC hb1 h2 ⊢
    have HL := Lib.hid hm
    obtain ⟨y, hy⟩ : ∃ y, x % 9223372036854775808 = y := ⟨_, rfl⟩
    rw [hy] at hmask
    have hy63 : y < 9223372036854775808 := by omega
    have HY := Lib.hid hy
    clear hx hxs hm hy
    go_enter Tryz.func82, Tryz.ntmps82
    go_wp2
    go_loop [12, 4] (fun i n => ∃ k nv : Nat, k ≤ m ∧ i = .int .i64 (k : Nat) ∧ n = .int .u64 (nv : Nat) ∧ Hid (nv = dval (xs.take k))) (fun i _ => m - (intOf i).toNat)
    case atStart => exact ⟨0, 0, Nat.zero_le _, rfl, rfl, Lib.hid rfl⟩
    case round =>
      obtain ⟨k, nv, hk, rfl, rfl, HN⟩ := hrel
      by_cases hlt2 : k < m
      · obtain ⟨b, off, ha, hc1⟩ := HC.out.1.at hlt2
        subst ha
        have hax := dOk_at HC.out.2.1 k
        rw [bse_eq] at hax
        have hs := dval_take_succ xs k
        obtain ⟨ak, hak⟩ : ∃ ak, xs.getD k 0 = ak := ⟨_, rfl⟩
        rw [hak] at hc1 hax hs
        match k, hk, hlt2 with
        | 0, hk, hlt2 =>
          have h0 : nv = 0 := by rw [HN.out]; rfl
          rw [Nat.add_zero] at hc1
          subst h0
          have hor : bits .or .u64 0 (ak : Int) = (ak : Int) := by
            have := or_u64 0 ak (by omega) (by omega)
            simpa using this
          have HS := Lib.hid (show ak = dval (xs.take 1) by rw [hs]; simp [dval])
          have hm0 : (0 : Int) < (m : Int) := by omega
          clear hs hak HN
          go_wp2
          go_round
          case rel => exact ⟨1, ak, by omega, rfl, rfl, HS⟩
          case measure => simp [intOf]; omega
        | 1, hk, hlt2 =>
          have h32 : nv < 4294967296 := by
            rw [HN.out]
            have := dval_lt (dOk_take HC.out.2.1 1)
            rw [List.length_take, Nat.min_eq_left (by have := HL.out; omega)] at this
            simpa [bse] using this
          have hor : bits .or .u64 (nv : Int) ((ak : Int) * 4294967296) = ((nv + 4294967296 * ak : Nat) : Int) := by
            have h3 := or_add (c := nv) (d := ak) (s := 32) (by simpa using h32)
            have h4 := or_u64 nv (2 ^ 32 * ak) (by omega) (by omega)
            rw [h3] at h4
            rw [← h4, Int.natCast_mul, Int.mul_comm]
            rfl
          obtain ⟨t, ht⟩ : ∃ t : Nat, nv + 4294967296 * ak = t := ⟨_, rfl⟩
          rw [ht] at hor
          have htb : t < 18446744073709551616 := by omega
          have HS := Lib.hid (show t = dval (xs.take 2) by rw [hs, ← HN.out, ← ht]; simp [bse])
          have hm0 : (1 : Int) < (m : Int) := by omega
          clear hs hak HN ht
          go_wp2
          go_round
          case rel => exact ⟨2, t, by omega, rfl, rfl, HS⟩
          case measure => simp [intOf]; omega
        | k + 2, hk, hlt2 => omega
      · obtain rfl : k = m := by omega
        obtain rfl : nv = x := by
          rw [HN.out, ← HC.out.2.2, List.take_of_length_le (by rw [HL.out]; exact Nat.le_refl _)]
        by_cases hbig : nv ≤ 1000000000000000000
        · have hb2 : (nv : Int) ≤ 1000000000000000000 := by omega
          go_wp2
          go_ret2
          exact ⟨(y : Int), fun _ => by have := HY.out; omega, by simp [hbig], rfl⟩
        · have hb2 : ¬ (nv : Int) ≤ 1000000000000000000 := by omega
          go_wp2
          go_ret2
          exact ⟨(y : Int), fun h => absurd h hbig, by simp [hbig], rfl⟩
  · have hbig : ¬ x ≤ 1000000000000000000 := by
      have hx0 : x ≠ 0 := fun e => by subst e; simp [digs_zero] at h2
      have h1 := digs_ge hx0
      have h3 : bse ^ 2 ≤ bse ^ ((digs x).length - 1) := Nat.pow_le_pow_right bse_pos (by omega)
      have : bse ^ 2 = 18446744073709551616 := by decide
      omega
    obtain ⟨m, hm⟩ : ∃ m, (digs x).length = m := ⟨_, rfl⟩
    rw [hm] at hb1 h2 ⊢
    have h2' : (2 : Int) < (m : Int) := by omega
    clear hx hm
    go_enter Tryz.func82, Tryz.ntmps82
    go_wp2
    go_ret2
    exact ⟨0, fun h => absurd h hbig, by simp [hbig], rfl⟩
theorem bitLen_log {d : Nat} (h0 : d ≠ 0) (h1 : d < 4294967296) : ∃ k, k ≤ 31 ∧ 2 ^ k ≤ d ∧ d < 2 ^ (k + 1) := by
  refine ⟨Nat.log2 d, ?_, Nat.log2_self_le h0, Nat.lt_log2_self⟩
  have : Nat.log2 d < 32 := (Nat.log2_lt h0).2 h1
  omega
/-- The shift that makes the greatest digit great. -/
theorem norm_shift {y : Nat} (hy : y ≠ 0) : ∃ k s : Nat, k + s = 31 ∧ 2 ^ k ≤ (digs y).getD ((digs y).length - 1) 0 ∧ (digs y).getD ((digs y).length - 1) 0 < 2 ^ (k + 1) ∧ 2 ^ s * y < bse ^ (digs y).length ∧ bse ^ (digs y).length ≤ 2 * (2 ^ s * y) := by
  have hd := digs_last y hy
  have hp := digs_len_pos (Nat.pos_of_ne_zero hy)
  obtain ⟨k, hk, h1, h2⟩ := bitLen_log hd (dOk_at (digs_ok y) _)
  have h3 := dval_take_succ (digs y) ((digs y).length - 1)
  rw [show (digs y).length - 1 + 1 = (digs y).length from by omega, List.take_length, dval_digs] at h3
  have h4 := dval_lt (dOk_take (digs_ok y) ((digs y).length - 1))
  rw [List.length_take, Nat.min_eq_left (by omega)] at h4
  obtain ⟨n, hn⟩ : ∃ n, (digs y).length = n + 1 := ⟨(digs y).length - 1, by omega⟩
  rw [hn] at h3 h4 h1 h2 ⊢
  simp only [Nat.add_sub_cancel] at h3 h4 h1 h2 ⊢
  generalize (digs y).getD n 0 = d at *
  generalize dval ((digs y).take n) = r at *
  obtain ⟨s, hs⟩ : ∃ s, k + s = 31 := ⟨31 - k, by omega⟩
  refine ⟨k, s, hs, h1, h2, ?_, ?_⟩
  · have e1 : 2 ^ s * 2 ^ (k + 1) = bse := by rw [← Nat.pow_add, show s + (k + 1) = 32 from by omega]; rfl
    have e2 : y + 1 ≤ bse ^ n * 2 ^ (k + 1) := by
      have : bse ^ n * (d + 1) ≤ bse ^ n * 2 ^ (k + 1) := Nat.mul_le_mul_left _ h2
      rw [Nat.mul_add] at this
      omega
    have e3 : 2 ^ s * (y + 1) ≤ 2 ^ s * (bse ^ n * 2 ^ (k + 1)) := Nat.mul_le_mul_left _ e2
    have e4 : 2 ^ s * (bse ^ n * 2 ^ (k + 1)) = bse ^ (n + 1) := by rw [Nat.pow_succ, ← e1]; grind
    have e5 := Nat.two_pow_pos s
    rw [Nat.mul_add] at e3
    omega
  · have e1 : 2 * (2 ^ s * 2 ^ k) = bse := by rw [← Nat.pow_add, show s + k = 31 from by omega]; rfl
    have e2 : bse ^ n * 2 ^ k ≤ y := by
      have : bse ^ n * 2 ^ k ≤ bse ^ n * d := Nat.mul_le_mul_left _ h1
      omega
    have e3 : 2 * (2 ^ s * (bse ^ n * 2 ^ k)) ≤ 2 * (2 ^ s * y) := Nat.mul_le_mul_left _ (Nat.mul_le_mul_left _ e2)
    have e4 : 2 * (2 ^ s * (bse ^ n * 2 ^ k)) = bse ^ (n + 1) := by rw [Nat.pow_succ, ← e1]; grind
    omega
end Go.Proofs.YtaneocedklnajaaGreat
/- Numbers of any size in memory: over (quotient and rest) and shared (the greatest common divisor). Conditions: the lengths stay below 2 to the power of 29. -/
namespace Go.Proofs.YtaneocedklnajaaGreat
open Go.RowKit
set_option linter.unusedVariables false

/-- A call's answer: two numbers of any size. -/
def RetTwo (w : World) (p q : Nat) (e : Ending) (w' : World) : Prop := ∃ a1 c1 a2 c2, e = .returned (.tuple #[.slice a1 (digs p).length c1, .slice a2 (digs q).length c2]) ∧ IsU32s w' a1 (digs p).length (digs p) ∧ IsU32s w' a2 (digs q).length (digs q) ∧ Below w.heap.size w w'

/-- What a division holds: the rest's row, the quotient's row, the divisor's row. -/
def ovL (g1 g2 g3 c1 c2 c3 : Nat) (rs qs bs : List Nat) : List (Nat × (Obj → Prop)) := [(g1, rowO 131 c1 (u32s rs)), (g2, rowO 131 c2 (u32s qs)), (g3, rowO 131 c3 (u32s bs))]
theorem rowO_own {w : World} {B g n c : Nat} {ds : List Nat} (h : w.ownsRow B 131 1 (.slice (some ⟨g, 0, none⟩) n c) n (u32s ds)) : Owns w B [(g, rowO 131 c (u32s ds))] := Owns.ofRow h
theorem laid_spl {rs : List Nat} {k n z : Nat} (hl : k + n < rs.length) (hz : (digs z).length ≤ n + 1) : spl (spl rs k (List.replicate (n + 1) 0)) k (digs z) = laid rs k n z := by
  unfold laid spl
  simp only [List.length_replicate]
  have h1 : (rs.take k).length = k := by simp; omega
  have e1 : (rs.take k ++ (List.replicate (n + 1) 0 ++ rs.drop (k + (n + 1)))).take k = rs.take k := by rw [List.take_append, h1, Nat.sub_self, List.take_zero, List.append_nil, List.take_of_length_le (by omega)]
  have e2 : (rs.take k ++ (List.replicate (n + 1) 0 ++ rs.drop (k + (n + 1)))).drop (k + (digs z).length) = List.replicate (n + 1 - (digs z).length) 0 ++ rs.drop (k + n + 1) := by
    rw [List.drop_append, h1, List.drop_of_length_le (by omega), List.nil_append, show k + (digs z).length - k = (digs z).length from by omega, List.drop_append, List.length_replicate, List.drop_replicate, show (digs z).length - (n + 1) = 0 from by omega, List.drop_zero]
    rfl
  rw [e1, e2]
  simp
theorem Owns.u32At {w : World} {B : Nat} {l : List (Nat × (Obj → Prop))} (h : Owns w B l) (i : Nat) {g c : Nat} {ds : List Nat} (hi : l[i]? = some (g, rowO 131 c (u32s ds))) (j : Nat) (hj : j < ds.length) : w.cell? ⟨g, j, none⟩ = some (.int .u32 ((ds.getD j 0 : Nat) : Int)) := by
  rw [h.cellAt i hi j (by rw [u32s_len]; exact hj)]
  simp [u32s, List.getD, hj]
theorem Owns.readsAt {w : World} {B : Nat} {l : List (Nat × (Obj → Prop))} (h : Owns w B l) (i : Nat) {g c : Nat} {ds : List Nat} (hi : l[i]? = some (g, rowO 131 c (u32s ds))) (off n : Nat) (hn : off + n ≤ ds.length) : IsU32s w (some ⟨g, off, none⟩) n ((ds.drop off).take n) := by
  refine ⟨by simp; omega, fun j hj => ⟨g, off, rfl, ?_⟩⟩
  rw [h.u32At i hi (off + j) (by omega)]
  simp [List.getD, List.getElem?_drop, hj]
set_option maxRecDepth 20000 in
set_option maxHeartbeats 3200000 in
theorem natOver_small (a1 a2 : Option Addr) (c1 c2 x y : Nat) (w : World) (hx : IsU32s w a1 (digs x).length (digs x)) (hy : IsU32s w a2 (digs y).length (digs y)) (hb1 : (digs x).length < 536870912) (hb2 : (digs y).length < 536870912) (hlt : x < y) :
    Calls Tryz.prog 109 #[.slice a1 (digs x).length c1, .slice a2 (digs y).length c2] w (RetTwo w (x / y) (x % y)) := by
  have HC := Lib.hid (natCompare_any a1 a2 c1 c2 x y w hx hy (by omega) (by omega))
  have HX := Lib.hid (And.intro hx (And.intro (Nat.div_eq_of_lt hlt) (Nat.mod_eq_of_lt hlt)))
  obtain ⟨l1, hl1⟩ : ∃ l, (digs x).length = l := ⟨_, rfl⟩
  obtain ⟨l2, hl2⟩ : ∃ l, (digs y).length = l := ⟨_, rfl⟩
  rw [hl1, hl2] at HC ⊢
  have HL := Lib.hid hl1
  clear hx hy hl1 hl2 hb1 hb2
  go_enter Tryz.func109, Tryz.ntmps109
  go_wp2_with fail
  refine HC.out.mono ?_
  rintro e w1 ⟨c, hc1, hc2, hcmp, rfl, hb⟩
  have hneg : c < 0 := hcmp.1.2 hlt
  have HB := Lib.hid hb
  clear hcmp hb hlt
  go_wp2
  go_ret2
  refine ⟨none, 0, a1, c1, ?_, ?_, ?_, HB.out⟩
  · rw [HX.out.2.1, HX.out.2.2, digs_zero, HL.out]; rfl
  · rw [HX.out.2.1, digs_zero]; exact IsU32s.nil
  · rw [HX.out.2.2]; exact HX.out.1.below HB.out
theorem row_prefix {e : TypeId} {c : Nat} {xs ys : List Value} {o : Obj} (h : rowO e c (xs ++ ys) o) : rowO e c xs o := by
  obtain ⟨cur, rfl, h1, h2, h3, h4⟩ := h
  rw [List.length_append] at h2 h4
  refine ⟨cur, rfl, h1, by omega, h3, ?_⟩
  have := congrArg (List.take xs.length) h4
  rw [List.take_take, Nat.min_eq_left (by omega), List.take_append, Nat.sub_self, List.take_zero, List.append_nil, List.take_of_length_le (Nat.le_refl _)] at this
  exact this
theorem Owns.weaken {w : World} {B g : Nat} {φ ψ : Obj → Prop} (h : Owns w B [(g, φ)]) (hw : ∀ o, φ o → ψ o) : Owns w B [(g, ψ)] :=
  ⟨by simp, fun p hp => by
    rw [List.mem_singleton] at hp
    subst hp
    obtain ⟨hB, o, ho, hφ⟩ := h.holds (g, φ) (by simp)
    exact ⟨hB, o, ho, hw o hφ⟩⟩
/-- Both shifted numbers as rows of the call's own. -/
theorem ov_two {w w1 w2 w3 : World} {g1 g3 n m Y : Nat} {rs ds : List Nat} (hb1 : Below w.heap.size w w1) (h1 : OwnU w2 w1.heap.size g1 m rs) (hb2 : Below w1.heap.size w1 w2) (h3 : OwnU w3 w2.heap.size g3 (n + 1) ds) (hb3 : Below w2.heap.size w2 w3) (hd : dOk ds) (hY : dval ds = Y) (hn : (digs Y).length = n) :
    Owns w3 w.heap.size [(g3, rowO 131 (n + 1) (u32s (digs Y))), (g1, rowO 131 m (u32s rs))] ∧ Below w.heap.size w w3 := by
  have hb12 := bthen hb1 hb2
  have hb := bthen hb12 hb3
  refine ⟨?_, hb⟩
  have o1 := (rowO_own h1).mono hb1.size
  have o3 := (rowO_own h3).weaken (ψ := rowO 131 (n + 1) (u32s (digs Y))) (fun o ho => by
    have e : ds = digs Y ++ ds.drop n := by
      have e1 : ds.take n = digs Y := by
        have hl : ds.length = n + 1 := h3.len
        have hv := dval_lt (digs_ok Y)
        rw [dval_digs, hn] at hv
        have hz := dval_hi_zero (l := ds) (by rw [hY]; exact hv)
        have := trim_eq (l := ds) (n := n) hd (by omega) (fun j h1 h2 => by
          have := dval_zero_iff hz (j - n)
          simpa [List.getD, List.getElem?_drop, show n + (j - n) = j by omega] using this) (by
          by_cases e0 : n = 0
          · exact Or.inl e0
          · right
            intro e
            have h4 := dval_take_succ ds (n - 1)
            rw [show n - 1 + 1 = n from by omega, e, Nat.mul_zero, Nat.add_zero] at h4
            have h5 := dval_split ds n (by omega)
            rw [hz, Nat.mul_zero, Nat.add_zero, hY, h4] at h5
            have h6 := dval_lt (dOk_take hd (n - 1))
            rw [List.length_take, Nat.min_eq_left (by omega), ← h5] at h6
            have h7 := digs_ge (n := Y) (fun e => by subst e; simp [digs_zero] at hn; omega)
            rw [hn] at h7
            omega)
        rw [this, hY]
      rw [← e1, List.take_append_drop]
    rw [e, u32s, List.map_append] at ho
    exact row_prefix ho)
  exact o1.join hb3 hb12.size o3
theorem Owns.readsAll {w : World} {B : Nat} {l : List (Nat × (Obj → Prop))} (h : Owns w B l) (i : Nat) {g c : Nat} {ds : List Nat} (hi : l[i]? = some (g, rowO 131 c (u32s ds))) : IsU32s w (some ⟨g, 0, none⟩) ds.length ds := by
  have := h.readsAt i hi 0 ds.length (by omega)
  rwa [List.drop_zero, List.take_of_length_le (Nat.le_refl _)] at this
theorem take_digs {ds : List Nat} (hok : dOk ds) : (digs (dval ds)).length ≤ ds.length ∧ ds.take (digs (dval ds)).length = digs (dval ds) := by
  have hl : (digs (dval ds)).length ≤ ds.length := digs_len_le (dval_lt hok)
  refine ⟨hl, ?_⟩
  have hz := dval_split ds (digs (dval ds)).length hl
  have hlt := dval_lt (digs_ok (dval ds))
  rw [dval_digs] at hlt
  have h0 : dval (ds.drop (digs (dval ds)).length) = 0 := dval_hi_zero hlt
  refine trim_eq hok hl (fun j h1 h2 => ?_) ?_
  · have := dval_zero_iff h0 (j - (digs (dval ds)).length)
    simpa [List.getD, List.getElem?_drop, show (digs (dval ds)).length + (j - (digs (dval ds)).length) = j by omega] using this
  · by_cases e0 : dval ds = 0
    · left; rw [e0, digs_zero]; rfl
    · right
      intro e
      have h3 := dval_take_succ ds ((digs (dval ds)).length - 1)
      have hp := digs_len_pos (Nat.pos_of_ne_zero e0)
      rw [show (digs (dval ds)).length - 1 + 1 = (digs (dval ds)).length from by omega, e, Nat.mul_zero, Nat.add_zero] at h3
      rw [h0, Nat.mul_zero, Nat.add_zero] at hz
      have h4 := dval_lt (dOk_take hok ((digs (dval ds)).length - 1))
      rw [List.length_take, Nat.min_eq_left (by omega), ← h3, ← hz] at h4
      have := digs_ge e0
      omega
theorem IsU32s.trimmed {w : World} {a : Option Addr} {n : Nat} {ds : List Nat} (h : IsU32s w a n ds) (hok : dOk ds) : IsU32s w a (digs (dval ds)).length (digs (dval ds)) := by
  obtain ⟨h1, h2⟩ := take_digs hok
  have := h.take (n := (digs (dval ds)).length) (by rw [← h.1]; exact h1)
  rwa [h2] at this
theorem u32s_cells {w : World} {a : Option Addr} {n : Nat} {ds : List Nat} (h : IsU32s w a n ds) : ∀ j, j < n → ∃ b f, a = some ⟨b, f, none⟩ ∧ w.cell? ⟨b, f + j, none⟩ = (u32s ds)[j]? := fun j hj => by
  obtain ⟨b, f, e, hc⟩ := h.at hj
  refine ⟨b, f, e, ?_⟩
  rw [hc]
  simp [u32s, List.getD, List.getElem?_eq_getElem (show j < ds.length by rw [h.1]; exact hj)]
theorem u32s_one (ds : List Nat) : ∀ v ∈ u32s ds, v.oneCell' = true := fun v hv => by
  unfold u32s at hv
  obtain ⟨d, _, rfl⟩ := List.mem_map.1 hv
  rfl
theorem zeroU (w : World) : (zeroValue 131).run Tryz.prog w = .ok (.int .u32 0) w := by kernel_rfl
/-- The rest's row behind clear and copy. -/
theorem ov_row {rs : List Nat} {j n z : Nat} (hl : j + n < rs.length) (hz : (digs z).length ≤ n + 1) : spl (spl (u32s rs) j (List.replicate (n + 1) (Value.int .u32 0))) j (u32s (digs z)) = u32s (laid rs j n z) := by
  rw [← laid_spl hl hz]
  unfold u32s
  rw [spl_map, spl_map, List.map_replicate]
  rfl
theorem digs_one {d : Nat} (h : d < 4294967296) : (digs d).length ≤ 1 := digs_len_le (by rw [bse_eq]; simpa using h)
theorem digs_mul_len {b d n : Nat} (h : (digs b).length = n) (hd : d < 4294967296) : (digs (b * d)).length ≤ n + 1 := by
  apply digs_len_le
  have h1 := digs_lt b
  rw [h] at h1
  have h2 : b * d ≤ b * 4294967296 := Nat.mul_le_mul_left _ (by omega)
  rw [Nat.pow_succ, bse_eq]
  rw [bse_eq] at h1
  have h3 : b * 4294967296 < 4294967296 ^ n * 4294967296 := Nat.mul_lt_mul_of_pos_right h1 (by omega)
  omega
/-- What a division leans on: the contracts of its callees at its arguments, and the numbers. -/
structure OvHyp (a1 a2 : Option Addr) (c1 c2 x y m n N s bl : Nat) (w : World) : Prop where
  cmp : Calls Tryz.prog 75 #[.slice a1 m c1, .slice a2 n c2] w (RetCmp w x y)
  up1 : ∀ w', Below w.heap.size w w' → Calls Tryz.prog 139 #[.slice a1 m c1, .int .i64 (s : Nat)] w' (RetRow w' (m + 1) (2 ^ s * x))
  up2 : ∀ w', Below w.heap.size w w' → Calls Tryz.prog 139 #[.slice a2 n c2, .int .i64 (s : Nat)] w' (RetRow w' (n + 1) (2 ^ s * y))
  lz : ∀ w', Calls Tryz.prog 138 #[.int .u32 (bl : Nat)] w' fun e w'' => e = .returned (.int .i64 (s : Nat)) ∧ w' = w''
  cell : ∃ b off, a2 = some ⟨b, off, none⟩ ∧ w.cell? ⟨b, off + N, none⟩ = some (.int .u32 (bl : Nat))
  hn : (digs (2 ^ s * y)).length = n
  hm : (digs x).length = m
  lo : 2 ^ s * y < bse ^ n
  hi : bse ^ n ≤ 2 * (2 ^ s * y)
  le : y ≤ x
  y0 : 0 < y
theorem ovHyp_of {a1 a2 : Option Addr} {c1 c2 x y : Nat} {w : World} (hx : IsU32s w a1 (digs x).length (digs x)) (hy : IsU32s w a2 (digs y).length (digs y)) (hb1 : (digs x).length < 536870912) (hy0 : 0 < y) (hle : y ≤ x) :
    ∃ N s bl, N + 1 = (digs y).length ∧ (digs y).length ≤ (digs x).length ∧ s ≤ 31 ∧ bl < 4294967296 ∧ OvHyp a1 a2 c1 c2 x y (digs x).length (digs y).length N s bl w := by
  have hlen := digs_len_mono hle
  obtain ⟨kk, s, hks, hk1, hk2, hs1, hs2⟩ := norm_shift (Nat.ne_of_gt hy0)
  have hn1 := digs_len_pos hy0
  have hdl := dOk_at (digs_ok y) ((digs y).length - 1)
  rw [bse_eq] at hdl
  refine ⟨(digs y).length - 1, s, (digs y).getD ((digs y).length - 1) 0, by omega, hlen, by omega, hdl, ?_⟩
  have hbl : Lib.bitLen ((digs y).getD ((digs y).length - 1) 0) = kk + 1 := by
    have h3 : (digs y).getD ((digs y).length - 1) 0 < 2 ^ 64 := by omega
    have h4 : (digs y).getD ((digs y).length - 1) 0 / 2 ^ kk = 1 := by
      have hp : 0 < 2 ^ kk := Nat.two_pow_pos kk
      rw [Nat.pow_succ] at hk2
      have a : 1 ≤ (digs y).getD ((digs y).length - 1) 0 / 2 ^ kk := (Nat.le_div_iff_mul_le hp).2 (by omega)
      have b : (digs y).getD ((digs y).length - 1) 0 / 2 ^ kk < 2 := (Nat.div_lt_iff_lt_mul hp).2 (by omega)
      omega
    rw [Lib.bitLen_shift kk _ hk1 h3, h4]
    rfl
  refine ⟨natCompare_any a1 a2 c1 c2 x y w hx hy (by omega) (by omega), fun w' hb => natUp_any a1 c1 x s w' (hx.below hb) (by omega) (by omega), fun w' hb => natUp_any a2 c2 y s w' (hy.below hb) (by omega) (by omega), fun w' => ?_, hy.at (by omega), up_digs (Nat.ne_of_gt hy0) hs1, rfl, hs1, hs2, hle, hy0⟩
  refine (Tryz.bits_LeadingZeros32 (((digs y).getD ((digs y).length - 1) 0 : Nat) : Int) w' (by omega) (by omega)).mono ?_
  rintro e w2 ⟨rfl, h⟩
  refine ⟨?_, h.symm⟩
  rw [Int.toNat_natCast, hbl, show ((32 : Int) - ((kk + 1 : Nat) : Int)) = (s : Int) by omega]
theorem over_lt {x B m n s Q : Nat} (hm : (digs x).length = m) (hi : bse ^ n ≤ 2 * B) (hs : s ≤ 31) (hnm : n ≤ m) (hQ : m + 1 - n = Q) : 2 ^ s * x < bse ^ Q * B := by
  have h1 := digs_lt x
  rw [hm] at h1
  have h2 := pow31 hs
  have h3 : 2 ^ s * x ≤ 2147483648 * x := Nat.mul_le_mul_right _ h2
  have h4 : bse ^ Q * bse ^ n ≤ bse ^ Q * (2 * B) := Nat.mul_le_mul_left _ hi
  rw [← Nat.pow_add, show Q + n = m + 1 from by omega, Nat.pow_succ, bse_eq] at h4
  rw [bse_eq] at h1 ⊢
  have h5 : 4294967296 ^ Q * (2 * B) = 2 * (4294967296 ^ Q * B) := by grind
  omega
/-- What is known ahead of one digit of the quotient. -/
theorem ov_guess {X B n N j : Nat} {rs qs : List Nat} (h : OverR X B n rs qs (j + 1)) (hb : 0 < B) (hl : j + n < rs.length) (hlen : (digs B).length = n) (hN : N + 1 ≤ n) (hN2 : n ≤ N + 1) :
    ∃ lb t0 t1 mm top qd qt : Nat, (digs B).getD N 0 = lb ∧ rs.getD (j + n) 0 = t0 ∧ rs.getD (j + N) 0 = t1 ∧ (t0 : Int) * 4294967296 = mm ∧ bits .or .u64 (mm : Int) (t1 : Int) = (top : Int) ∧ (top : Int) / (lb : Int) = qd ∧ dval (window rs j n) / B = qt ∧
      lb ≠ 0 ∧ lb < 4294967296 ∧ t0 < 4294967296 ∧ t1 < 4294967296 ∧ mm < 18446744073709551616 ∧ top < 18446744073709551616 ∧ qd < 18446744073709551616 ∧ qt ≤ qd ∧ qt < 4294967296 := by
  have h0 := dOk_at h.ok (j + n)
  have h1 := dOk_at h.ok (j + N)
  have hlb := dOk_at (digs_ok B) N
  have hl0 : (digs B).getD N 0 ≠ 0 := by
    have := digs_last B (Nat.ne_of_gt hb)
    rwa [hlen, show n - 1 = N from by omega] at this
  have hq := h.dig hb hl
  have hg := guess_ok (ws := window rs j n) (bs := digs B) (n := n) (b := B) (by omega) (window_ok h.ok j n) (window_len hl) hlen (dval_digs B) (by rw [show n - 1 = N from by omega]; exact hl0)
  rw [window_at (by omega), window_at (by omega), show n - 1 = N from by omega] at hg
  rw [bse_eq] at h0 h1 hlb hq hg
  refine ⟨_, _, _, rs.getD (j + n) 0 * 4294967296, rs.getD (j + n) 0 * 4294967296 + rs.getD (j + N) 0, _, _, rfl, rfl, rfl, by rw [Int.natCast_mul]; rfl, ?_, by rw [Int.natCast_ediv], rfl, hl0, hlb, h0, h1, by omega, by omega, ?_, hg, hq⟩
  · rw [or_u64 _ _ (by omega) (by omega)]
    have := or_add (c := rs.getD (j + N) 0) (d := rs.getD (j + n) 0) (s := 32) (by simpa using h1)
    rw [Nat.or_comm, show rs.getD (j + n) 0 * 4294967296 = 2 ^ 32 * rs.getD (j + n) 0 by rw [Nat.mul_comm], this, Nat.add_comm]
  · exact Nat.lt_of_le_of_lt (Nat.div_le_self _ _) (by omega)
set_option maxRecDepth 20000 in
set_option maxHeartbeats 800000 in
theorem natOver_core (a1 a2 : Option Addr) (c1 c2 x y m n N s bl : Nat) (w : World) (HY : Hid (OvHyp a1 a2 c1 c2 x y m n N s bl w)) (hm : m < 536870912) (hnm : n ≤ m) (hN : N + 1 ≤ n) (hN2 : n ≤ N + 1) (hs : s ≤ 31) (hbl : bl < 4294967296) :
    Calls Tryz.prog 109 #[.slice a1 m c1, .slice a2 n c2] w (RetTwo w (x / y) (x % y)) := by
  obtain ⟨i0, hi, hz0, hz1, hz2⟩ := info_parts Tryz.infoU
  have hNn : (n : Int) - 1 = (N : Int) := by omega
  go_enter Tryz.func109, Tryz.ntmps109
  go_wp2_with fail
  refine HY.out.cmp.mono ?_
  rintro e w1 ⟨c, hc1, hc2, hcc, rfl, hb⟩
  have hpos0 : 0 ≤ c := by
    rcases Int.lt_or_le c 0 with h | h
    · have := hcc.1.1 h
      have := HY.out.le
      omega
    · exact h
  obtain ⟨b, off, ha, hcell⟩ := HY.out.cell
  subst ha
  have hcell1 := (hb.cell (p := ⟨b, off + N, none⟩) (World.block_lt_of_cell? w _ hcell)).trans hcell
  have HB1 := Lib.hid hb
  have hN1 : (N : Int) < (n : Int) := by omega
  clear hcc hb hcell
  have hcd : decide (c < 0) = false := decide_eq_false (by omega)
  go_wp2_with fail
  refine (HY.out.lz _).mono ?_
  rintro e w2 ⟨rfl, rfl⟩
  go_wp2_with fail
  refine (HY.out.up1 _ HB1.out).mono ?_
  rintro e w2 ⟨g1, rs, rfl, h1, ok1, v1, hb2⟩
  have H1 := Lib.hid (And.intro h1 (And.intro ok1 (And.intro v1 hb2)))
  clear h1 ok1 v1 hb2
  go_wp2_with fail
  refine (HY.out.up2 _ (bthen HB1.out H1.out.2.2.2)).mono ?_
  rintro e w3 ⟨g3, bs, rfl, h3, ok3, v3, hb3⟩
  have hO3 := ov_two HB1.out H1.out.1 H1.out.2.2.2 h3 hb3 ok3 v3 HY.out.hn
  have H3 := Lib.hid (And.intro h3 (And.intro ok3 v3))
  have HO3 := Lib.hid hO3
  clear h3 ok3 v3 hb3 hO3 hcell1
  go_wp2_with fail
  refine (trim_any _ (n + 1) (n + 1) bs _ (Nat.le_refl _) (by omega) H3.out.1.reads H3.out.2.1).mono ?_
  rintro e w4 ⟨rfl, rfl⟩
  rw [H3.out.2.2, HY.out.hn]
  obtain ⟨Q, hQ⟩ : ∃ Q, m + 1 - n = Q := ⟨_, rfl⟩
  have hQi : (m : Int) + 1 - (n : Int) = (Q : Int) := by omega
  have HQ := Lib.hid hQ
  clear hQ
  have Hm := Lib.hid (zerosU Q)
  go_wp2_with (at_make; refine wpList_make_full _ rfl _ _ 64 rfl w3.heap.size 131 i0 (.int .u32 0) 1 Tryz.underlying64 hi hz0 hz1 _ _ _ _ Q rfl rfl rfl rfl ?c1 ?c2 ?c3 ?_)
  case c1 => have := HQ.out; rw [hz2]; omega
  case c2 => have := HQ.out; unfold maxLen; omega
  case c3 => exact Nat.le_refl _
  intro w4 hown hgrow
  have hb4 : Below w3.heap.size w3 w4 := (Below.refl _ w3).grown hgrow (Nat.le_refl _) (by simp)
  have hown0 : OwnU w4 w3.heap.size w3.heap.size Q (List.replicate Q 0) := by
    unfold OwnU
    rw [← Hm.out]
    exact hown
  have hO4 := HO3.out.1.join hb4 HO3.out.2.size (rowO_own hown0)
  obtain ⟨g2, hg2⟩ : ∃ g2, w3.heap.size = g2 := ⟨_, rfl⟩
  have hO5 : Owns w4 w.heap.size (ovL g1 g2 g3 (m + 1) Q (n + 1) rs (List.replicate Q 0) (digs (2 ^ s * y))) := by
    rw [← hg2]
    exact hO4.perm (by unfold ovL; exact ((List.Perm.swap _ _ _).cons _).trans (List.Perm.swap _ _ _))
  have HO := Lib.hid (And.intro hO5 (bthen HO3.out.2 hb4))
  have HR := Lib.hid (OverR.start H1.out.2.1 H1.out.2.2.1 HY.out.lo (over_lt HY.out.hm HY.out.hi hs hnm HQ.out))
  have HRL := Lib.hid (show rs.length = m + 1 from H1.out.1.len)
  clear hown hgrow hb4 hown0 hO4 hO5 Hm HO3 H3 H1
  rw [hg2]
  have hQm : Q + n = m + 1 := by have := HQ.out; omega
  have hXB := HY.out.y0
  have HB0 := Lib.hid (show 0 < 2 ^ s * y from Nat.mul_pos (Nat.two_pow_pos s) HY.out.y0)
  clear hg2 hXB
  go_wp2
  go_loopw [11] (fun v wr => ∃ (k : Nat) (i : Int) (rs qs : List Nat), Hid (i = (k : Int) - 1) ∧ k ≤ Q ∧ -1 ≤ i ∧ i < Q ∧ v = .int .i64 i ∧ Hid (OverR (2 ^ s * x) (2 ^ s * y) n rs qs k ∧ rs.length = m + 1 ∧ qs.length = Q ∧ Owns wr w.heap.size (ovL g1 g2 g3 (m + 1) Q (n + 1) rs qs (digs (2 ^ s * y))) ∧ Below w.heap.size w wr)) (fun v _ => (intOf v + 1).toNat)
  case atStart => exact ⟨Q, _, rs, _, Lib.hid rfl, Nat.le_refl _, by omega, by omega, rfl, Lib.hid ⟨HR.out, HRL.out, by simp, HO.out.1, HO.out.2⟩⟩
  case round =>
    clear HR HRL HO
    obtain ⟨k, i, rs, qs, HI, hk, hi1, hi2, rfl, HR⟩ := hrel
    obtain ⟨wo, rfl⟩ : ∃ wo : World, wo = wr := ⟨_, rfl⟩
    by_cases h0 : 0 ≤ i
    · obtain ⟨j, rfl⟩ := Int.eq_ofNat_of_zero_le h0
      obtain rfl : k = j + 1 := by have := HI.out; omega
      have hjn : j + n < rs.length := by rw [HR.out.2.1]; omega
      obtain ⟨lb, t0, t1, mm, top, qd, qt, d1, d2, d3, e1, e2, e3, d4, b1, b2, b3, b4, b5, b6, b7, b8, b9⟩ := ov_guess HR.out.1 HB0.out hjn HY.out.hn hN hN2
      have hcl := HR.out.2.2.2.1.u32At 2 rfl N (by rw [HY.out.hn]; omega)
      have hc0 := HR.out.2.2.2.1.u32At 0 rfl (j + n) hjn
      have hc1' := HR.out.2.2.2.1.u32At 0 rfl (j + N) (by omega)
      rw [d1] at hcl
      rw [d2] at hc0
      rw [d3] at hc1'
      obtain ⟨p, hp⟩ : ∃ p, j + n = p := ⟨_, rfl⟩
      obtain ⟨q, hq⟩ : ∃ q, j + N = q := ⟨_, rfl⟩
      rw [hp] at hc0
      rw [hq] at hc1'
      have hpe : (j : Int) + (n : Int) = (p : Int) := by omega
      have hqe : (p : Int) - 1 = (q : Int) := by omega
      have hp0 : (0 : Int) ≤ (p : Int) := by omega
      have hp1 : (p : Int) < (m : Int) + 1 := by omega
      have hq0 : (0 : Int) ≤ (q : Int) := by omega
      have hq1 : (q : Int) < (m : Int) + 1 := by omega
      have hpw : IntKind.i64.wrap (p : Int) = (p : Int) := IntWalk.i64_in _ (by omega)
      have hqw : IntKind.i64.wrap (q : Int) = (q : Int) := IntWalk.i64_in _ (by omega)
      have hmw : IntKind.u64.wrap (mm : Int) = (mm : Int) := by rw [IntKind.wrap_u64]; omega
      have hlb0 : ((lb : Int) == 0) = false := by rw [beq_eq_false_iff_ne]; omega
      have HD := Lib.hid (And.intro d4 (And.intro hp (And.intro hq (And.intro b8 b9))))
      obtain ⟨dg0, hmin, hdg0⟩ : ∃ dg0 : Nat, min (qd : Int) 4294967295 = (dg0 : Int) ∧ (qt ≤ dg0 ∧ dg0 < 4294967296) := ⟨min qd 4294967295, by omega, by omega⟩
      have HG0 := Lib.hid hdg0
      clear d1 d2 d3 d4 hp hq b8 b9 hjn h0 hdg0
      go_wp2_with fail
      go_quiet (fail)
      go_wp2_with fail
      have HW := Lib.hid (And.intro (HR.out.2.2.2.1.drewN nq) (bthen HR.out.2.2.2.2 (drewN_below wo nq)))
      clear hcl hc0 hc1' e1 e2 e3 b5 b6 b7 hmw hlb0
      go_loopw [13] (fun v wr => ∃ dg : Nat, v = .int .u64 (dg : Nat) ∧ dg < 4294967296 ∧ Hid (qt ≤ dg ∧ Owns wr w.heap.size (ovL g1 g2 g3 (m + 1) Q (n + 1) rs qs (digs (2 ^ s * y))) ∧ Below w.heap.size w wr)) (fun v _ => (intOf v).toNat)
      case atStart => exact ⟨dg0, rfl, HG0.out.2, Lib.hid ⟨HG0.out.1, HW.out.1, HW.out.2⟩⟩
      case round =>
        clear HW HG0 hmin
        obtain ⟨dg, rfl, hdg, HV⟩ := hrel
        go_wp2_with fail
        refine (naturalOf_any dg _ (by omega)).mono ?_
        rintro e w5 ⟨a5, c5, rfl, hl5, hx5, hb5⟩
        have hO5 := HV.out.2.1.below hb5
        have hB5 := bthen HV.out.2.2 hb5
        have hl5' := digs_one hdg
        have ht := natTimes_any (some ⟨g3, 0, none⟩) a5 (n + 1) c5 (2 ^ s * y) dg w5 (hO5.readsAll 2 rfl) hx5 (by rw [HY.out.hn]; omega) (by omega)
        rw [HY.out.hn] at ht
        have HT := Lib.hid ht
        have H5 := Lib.hid (And.intro hO5 hB5)
        clear hx5 hb5 hO5 hB5 ht
        go_wp2_with fail
        refine HT.out.mono ?_
        rintro e w6 ⟨a6, c6, rfl, hl6, hx6, hb6⟩
        have hl6' := digs_mul_len HY.out.hn hdg
        obtain ⟨l6, hl6e⟩ : ∃ l6, (digs (2 ^ s * y * dg)).length = l6 := ⟨_, rfl⟩
        have H6 := Lib.hid (And.intro (H5.out.1.below hb6) (And.intro (bthen H5.out.2 hb6) (And.intro hx6 hl6e)))
        rw [hl6e] at hl6 hl6' ⊢
        clear hx6 hb6 hl6e
        have hpj : p + 1 - j = n + 1 := by have := HD.out.2.1; omega
        have hjn : j + n < rs.length := by have := HD.out.2.1; have := HR.out.2.1; omega
        have hx6' := H6.out.1.readsAt 0 rfl j (n + 1) (by omega)
        rw [← hpj] at hx6'
        have H7 := Lib.hid (And.intro hx6' (And.intro hpj (And.intro hjn (window_ok HR.out.1.ok j n))))
        have hpj2 : p + 1 - j < 1073741824 := by omega
        clear hx6' hpj hjn
        go_wp2_with fail
        refine (natClone_any g1 j (p + 1 - j) (m + 1 - j) (window rs j n) _ (by omega) (by rw [window, ← H7.out.2.1]; exact H7.out.1)).mono ?_
        rintro e w7 ⟨a7, c7, rfl, hl7, hx7, hb7⟩
        have H8 := Lib.hid (And.intro (H6.out.1.below hb7) (And.intro (bthen H6.out.2.1 hb7) (And.intro (H6.out.2.2.1.below hb7) (And.intro hx7 hl7))))
        clear hx7 hb7 hl7
        go_wp2_with fail
        refine (trim_any a7 (p + 1 - j) c7 (window rs j n) _ H8.out.2.2.2.2 (by omega) H8.out.2.2.2.1 H7.out.2.2.2).mono ?_
        rintro e w8 ⟨rfl, rfl⟩
        obtain ⟨W, hW⟩ : ∃ W, dval (window rs j n) = W := ⟨_, rfl⟩
        have hx8 := H8.out.2.2.2.1.trimmed H7.out.2.2.2
        have hlW : (digs (dval (window rs j n))).length ≤ n + 1 := by
          have := (take_digs H7.out.2.2.2).1
          rwa [window_len H7.out.2.2.1] at this
        rw [hW] at hx8 hlW ⊢
        have hcm := natCompare_any a6 a7 c6 c7 (2 ^ s * y * dg) W w7 H8.out.2.2.1 hx8 (by rw [H6.out.2.2.2]; omega) (by omega)
        rw [H6.out.2.2.2] at hcm
        have HCm := Lib.hid hcm
        have HWW := Lib.hid hW
        clear hx8 hcm hW
        go_wp2_with fail
        refine HCm.out.mono ?_
        rintro e w8 ⟨c, hcc1, hcc2, hcc, rfl, hb8⟩
        have H9 := Lib.hid (And.intro (H8.out.1.below hb8) (And.intro (bthen H8.out.2.1 hb8) (And.intro (H8.out.2.2.1.below hb8) hcc)))
        clear hb8 hcc
        by_cases hle0 : c ≤ 0
        · have hBW : 2 ^ s * y * dg ≤ W := by
            rcases Nat.lt_or_ge W (2 ^ s * y * dg) with h | h
            · have := H9.out.2.2.2.2.2 h; omega
            · exact h
          have hdgq : dg = qt := by
            have h1 := HV.out.1
            have h2 := HD.out.1
            rw [HWW.out] at h2
            have h3 : dg ≤ W / (2 ^ s * y) := (Nat.le_div_iff_mul_le HB0.out).2 (by rw [Nat.mul_comm]; exact hBW)
            omega
          have hzr : W - 2 ^ s * y * dg = W % (2 ^ s * y) := by
            have h2 := HD.out.1
            rw [HWW.out] at h2
            have := Nat.div_add_mod W (2 ^ s * y)
            rw [h2, ← hdgq] at this
            omega
          have hx9 := H9.out.1.readsAt 0 rfl j (n + 1) H7.out.2.2.1
          rw [← H7.out.2.1] at hx9
          have hmi := natMinus_F (some ⟨g1, j, none⟩) a6 (p + 1 - j) l6 (m + 1 - j) c6 (window rs j n) (digs (2 ^ s * y * dg)) w8 (by rw [window, ← H7.out.2.1]; exact hx9) (by rw [← H6.out.2.2.2]; exact H9.out.2.2.1) H7.out.2.2.2 (digs_ok _) (by rw [H7.out.2.1]; omega) hpj2 (by rw [dval_digs, HWW.out]; exact hBW)
          rw [dval_digs, HWW.out, hzr] at hmi
          have hzl : (digs (W % (2 ^ s * y))).length ≤ n := by
            rw [← HY.out.hn]
            exact digs_len_mono (Nat.le_of_lt (Nat.mod_lt _ HB0.out))
          have HMi := Lib.hid (And.intro hmi (And.intro hdgq hzl))
          clear hx9 hmi hBW hdgq hzr hzl
          go_wp2_with fail
          refine HMi.out.1.mono ?_
          rintro e w9 ⟨a9, c9, rfl, hl9, hx9, hb9, hf9⟩
          have hgl : g1 < w8.heap.size := (H9.out.1.lt (List.mem_of_getElem? (i := 0) rfl)).2
          have H10 := Lib.hid (And.intro (H9.out.1.below hb9) (And.intro (bthen H9.out.2.1 hb9) (And.intro hx9 (fun b f (e : a9 = some ⟨b, f, none⟩) => (show b ≠ g1 by have := hf9 b f e; omega)))))
          clear hl9 hx9 hb9 hf9 hgl
          go_wp2_with (with_reducible refine wpList_clear_O rfl (.tmp 109) 64 rfl 131 (.int .u32 0) Tryz.underlying64 zeroU rfl rfl g1 j (p + 1 - j) (m + 1 - j) rfl ?k1 (i := 0) H10.out.1 rfl ?k2 ?_)
          case k1 => rw [H7.out.2.1]; omega
          case k2 => rw [H7.out.2.1, u32s_len]; have := H7.out.2.2.1; omega
          intro w10 hO10 hg10
          have hgw : w.heap.size ≤ g1 := (H9.out.1.lt (List.mem_of_getElem? (i := 0) rfl)).1
          have hb10 : Below w.heap.size w w10 := H10.out.2.1.grown hg10 H10.out.2.1.size (fun k hk => by simp at hk; omega)
          have hx10 := H10.out.2.2.1.grown hg10 H10.out.2.2.2
          have hsl : (spl (u32s rs) j (List.replicate (p + 1 - j) (Value.int IntKind.u32 0))).length = m + 1 := by
            rw [spl_len (by rw [List.length_replicate, H7.out.2.1, u32s_len]; have := H7.out.2.2.1; omega), u32s_len, HR.out.2.1]
          have H11 := Lib.hid (And.intro hO10 (And.intro hb10 (And.intro hx10 hsl)))
          clear hO10 hg10 hb10 hx10 hsl
          go_wp2_with (with_reducible refine wpList_copy_O rfl (.tmp 112) (.tmp 113) 64 64 rfl 131 Tryz.underlying64 ?k0 g1 j (m + 1 - j) (m + 1 - j) (digs (W % (2 ^ s * y))).length c9 a9 rfl rfl (i := 0) H11.out.1 rfl (u32s (digs (W % (2 ^ s * y)))) ?k1 ?k2 ?k3 ?k4 ?k5 ?_)
          case k0 => rw [hi]; simp [hz1]
          case k1 => exact u32s_len _
          case k2 => have := HMi.out.2.2; omega
          case k3 => rw [H11.out.2.2.2]; have := HMi.out.2.2; omega
          case k4 => exact u32s_cells H11.out.2.2.1
          case k5 => exact u32s_one _
          intro w12 hO12 hg12
          have hb12 : Below w.heap.size w w12 := H11.out.2.1.grown hg12 H11.out.2.1.size (fun k hk => by simp at hk; omega)
          rw [H7.out.2.1, ov_row H7.out.2.2.1 (Nat.le_succ_of_le HMi.out.2.2)] at hO12
          have hO13 : Owns w12 w.heap.size (ovL g1 g2 g3 (m + 1) Q (n + 1) (laid rs j n (W % (2 ^ s * y))) qs (digs (2 ^ s * y))) := hO12
          have hjQ : j < qs.length := by rw [HR.out.2.2.1]; omega
          have hcq := hO13.u32At 1 rfl j hjQ
          have hfq := hO13.frozenAt 1 rfl j
          have hO14 := hO13.setRow 1 rfl j (.int .u32 ((dg : Nat) : Int))
          rw [u32s_set] at hO14
          have hR14 := HR.out.1.next HB0.out H7.out.2.2.1 hjQ
          rw [HD.out.1, HWW.out, ← HMi.out.2.1] at hR14
          have hg2w : w.heap.size ≤ g2 := (hO13.lt (List.mem_of_getElem? (i := 1) rfl)).1
          have H14 := Lib.hid (And.intro hO14 (And.intro (hb12.setCell (p := ⟨g2, j, none⟩) hg2w (.int .u32 ((dg : Nat) : Int))) (And.intro hR14 (laid_len (z := W % (2 ^ s * y)) H7.out.2.2.1 (Nat.le_succ_of_le HMi.out.2.2)))))
          obtain ⟨cq, hcq'⟩ : ∃ cq, qs.getD j 0 = cq := ⟨_, rfl⟩
          rw [hcq'] at hcq
          have hdm : (dg : Int) % 4294967296 = (dg : Int) := by omega
          have hjQi : (j : Int) < (Q : Int) := hi2
          clear hO12 hg12 hb12 hO13 hjQ hO14 hR14 hcq' hgw hg2w
          go_wp2
          go_roundw
          case rel => exact ⟨j, _, laid rs j n (W % (2 ^ s * y)), qs.set j dg, Lib.hid rfl, by omega, by omega, by omega, rfl, Lib.hid ⟨H14.out.2.2.1, by rw [H14.out.2.2.2]; exact HR.out.2.1, by rw [List.length_set]; exact HR.out.2.2.1, H14.out.1, H14.out.2.1⟩⟩
          case measure => simp [intOf]
        · have hBW : W < 2 ^ s * y * dg := H9.out.2.2.2.2.1 (by omega)
          have hdg1 : 0 < dg := Nat.pos_of_ne_zero (fun e => by subst e; simp at hBW)
          obtain ⟨d', rfl⟩ : ∃ d', dg = d' + 1 := ⟨dg - 1, by omega⟩
          have hq' : qt ≤ d' := by
            have h2 := HD.out.1
            rw [HWW.out] at h2
            rw [← h2]
            have : W / (2 ^ s * y) < d' + 1 := (Nat.div_lt_iff_lt_mul HB0.out).2 (by rw [Nat.mul_comm]; exact hBW)
            omega
          have HE := Lib.hid (And.intro hq' (And.intro H9.out.1 H9.out.2.1))
          clear hBW hq' hdg1
          go_wp2_with fail
          go_roundw
          case rel => exact ⟨d', by go_num, by omega, HE⟩
          case measure => simp [intOf]
    · have hE := HR.out.1
      obtain rfl : k = 0 := by have := HI.out; omega
      obtain ⟨e1, e2⟩ := hE.done
      obtain ⟨s1, s2⟩ := shift_div x y s HY.out.y0
      rw [s1] at e1
      have hxs := HR.out.2.2.2.1.readsAll 0 rfl
      rw [HR.out.2.1] at hxs
      have HE := Lib.hid (And.intro e1 (And.intro (show dval rs / 2 ^ s = x % y by rw [e2, s2]) hxs))
      have hi0 : i < 0 := by omega
      clear hE e1 e2 s1 s2 hxs h0
      go_wp2_with fail
      refine (trim_any _ (m + 1) (m + 1) rs _ (Nat.le_refl _) (by omega) HE.out.2.2 HR.out.1.ok).mono ?_
      rintro e w5 ⟨rfl, rfl⟩
      have hl := (take_digs HR.out.1.ok).1
      rw [HR.out.2.1] at hl
      have hd := natDown_any (some ⟨g1, 0, none⟩) (m + 1) (dval rs) s wo (HE.out.2.2.trimmed HR.out.1.ok) (by omega) hs
      have HDn := Lib.hid hd
      clear hd hl
      go_wp2_with fail
      refine HDn.out.mono ?_
      rintro e w6 ⟨r, a6, c6, rfl, hl6, hx6, hb6⟩
      rw [HE.out.2.1] at hl6 hx6 ⊢
      have hqs := (HR.out.2.2.2.1.below hb6).readsAll 1 rfl
      rw [HR.out.2.2.1] at hqs
      have H6 := Lib.hid (And.intro hqs (And.intro hx6 (bthen HR.out.2.2.2.2 hb6)))
      clear hl6 hx6 hb6 hqs
      go_wp2_with fail
      refine (trim_any _ Q Q qs _ (Nat.le_refl _) (by omega) H6.out.1 HR.out.1.qok).mono ?_
      rintro e w7 ⟨rfl, rfl⟩
      rw [HE.out.1]
      go_wp2_with fail
      go_ret2
      have hq := H6.out.1.trimmed HR.out.1.qok
      rw [HE.out.1] at hq
      exact ⟨_, _, _, _, rfl, hq, H6.out.2.1, H6.out.2.2⟩
theorem natOver_any (a1 a2 : Option Addr) (c1 c2 x y : Nat) (w : World) (hx : IsU32s w a1 (digs x).length (digs x)) (hy : IsU32s w a2 (digs y).length (digs y)) (hb1 : (digs x).length < 536870912) (hb2 : (digs y).length < 536870912) (hy0 : 0 < y) :
    Calls Tryz.prog 109 #[.slice a1 (digs x).length c1, .slice a2 (digs y).length c2] w (RetTwo w (x / y) (x % y)) := by
  rcases Nat.lt_or_ge x y with h | h
  · exact natOver_small a1 a2 c1 c2 x y w hx hy hb1 hb2 h
  · obtain ⟨N, s, bl, e1, e2, e3, e4, H⟩ := ovHyp_of hx hy hb1 hy0 h
    exact natOver_core a1 a2 c1 c2 x y _ _ N s bl w (Lib.hid H) hb1 e2 (by omega) (by omega) e3 e4
set_option maxHeartbeats 800000 in
theorem natShared_any (a1 a2 : Option Addr) (c1 c2 x y : Nat) (w : World) (hx : IsU32s w a1 (digs x).length (digs x)) (hy : IsU32s w a2 (digs y).length (digs y)) (hb1 : (digs x).length < 536870912) (hb2 : (digs y).length < 536870912) :
    Calls Tryz.prog 108 #[.slice a1 (digs x).length c1, .slice a2 (digs y).length c2] w fun e w' => ∃ a c, e = .returned (.slice a (digs (Nat.gcd x y)).length c) ∧ IsU32s w' a (digs (Nat.gcd x y)).length (digs (Nat.gcd x y)) ∧ Below w.heap.size w w' := by
  obtain ⟨G, hG⟩ : ∃ G, Nat.gcd x y = G := ⟨_, rfl⟩
  rw [hG]
  have HI := Lib.hid (And.intro hx (And.intro hy hG))
  obtain ⟨l1, hl1⟩ : ∃ l, (digs x).length = l := ⟨_, rfl⟩
  obtain ⟨l2, hl2⟩ : ∃ l, (digs y).length = l := ⟨_, rfl⟩
  rw [hl1, hl2]
  have HL := Lib.hid (And.intro hl1 (And.intro hl2 (And.intro hb1 hb2)))
  clear hx hy hG hl1 hl2 hb1 hb2
  go_enter Tryz.func108, Tryz.ntmps108
  go_wp2
  go_loopg [0, 1] y (fun g v0 v1 wr => ∃ (p q : Option Addr) (m n cm cn X : Nat), v0 = .slice p m cm ∧ v1 = .slice q n cn ∧ Hid ((digs X).length = m ∧ (digs g).length = n ∧ m < 536870912 ∧ n < 536870912 ∧ IsU32s wr p m (digs X) ∧ IsU32s wr q n (digs g) ∧ Nat.gcd X g = G) ∧ Below w.heap.size w wr)
  case atStart => exact ⟨a1, a2, l1, l2, c1, c2, x, rfl, rfl, Lib.hid ⟨HL.out.1, HL.out.2.1, by rw [← HL.out.1]; exact HL.out.2.2.1, by rw [← HL.out.2.1]; exact HL.out.2.2.2, by rw [← HL.out.1]; exact HI.out.1, by rw [← HL.out.2.1]; exact HI.out.2.1, HI.out.2.2⟩, Below.refl _ _⟩
  case round =>
    obtain ⟨p, q, m, n, cm, cn, X, rfl, rfl, HR, hbr⟩ := hrel
    by_cases h0 : gk = 0
    · subst h0
      obtain rfl : n = 0 := by rw [← HR.out.2.1, digs_zero]; rfl
      have HB := Lib.hid hbr
      clear hbr
      go_wp2
      go_ret
      have hX : X = G := by have := HR.out.2.2.2.2.2.2; simpa using this
      have h1 := HR.out.1
      have h2 := HR.out.2.2.2.2.1
      rw [hX] at h1 h2
      rw [← h1] at h2
      exact ⟨p, cm, by rw [h1]; rfl, h2, HB.out⟩
    · have hp := Nat.pos_of_ne_zero h0
      have hn1 : 0 < n := by rw [← HR.out.2.1]; exact digs_len_pos hp
      have hn2 : (0 : Int) < (n : Int) := by omega
      have ho := natOver_any p q cm cn X gk wr (by rw [HR.out.1]; exact HR.out.2.2.2.2.1) (by rw [HR.out.2.1]; exact HR.out.2.2.2.2.2.1) (by rw [HR.out.1]; exact HR.out.2.2.1) (by rw [HR.out.2.1]; exact HR.out.2.2.2.1) hp
      rw [HR.out.1, HR.out.2.1] at ho
      have HO := Lib.hid ho
      have HB := Lib.hid hbr
      have HP := Lib.hid hp
      clear hbr ho hn1 h0 hp
      go_wp2_with fail
      refine HO.out.mono ?_
      rintro e w1 ⟨q1, d1, q2, d2, rfl, hx1, hx2, hb1⟩
      have hlt : (digs (X % gk)).length < 536870912 := Nat.lt_of_le_of_lt (digs_len_mono (Nat.le_of_lt (Nat.mod_lt X HP.out))) (by rw [HR.out.2.1]; exact HR.out.2.2.2.1)
      have hg : Nat.gcd gk (X % gk) = G := by
        rw [← HR.out.2.2.2.2.2.2, Nat.gcd_comm gk, ← Nat.gcd_rec, Nat.gcd_comm]
      have H := Lib.hid (And.intro hlt (And.intro hg (And.intro (HR.out.2.2.2.2.2.1.below hb1) (And.intro hx2 (bthen HB.out hb1)))))
      obtain ⟨l3, hl3⟩ : ∃ l, (digs (X % gk)).length = l := ⟨_, rfl⟩
      obtain ⟨l4, hl4⟩ : ∃ l, (digs (X / gk)).length = l := ⟨_, rfl⟩
      rw [hl3, hl4]
      have H3 := Lib.hid hl3
      clear hlt hg hx1 hx2 hb1 hl3 hl4
      go_wp2
      go_roundg (X % gk)
      case measure => exact Nat.mod_lt X HP.out
      case rel =>
        refine ⟨q, q2, n, l3, cn, d2, gk, rfl, rfl, Lib.hid ⟨HR.out.2.1, H3.out, HR.out.2.2.2.1, by rw [← H3.out]; exact H.out.1, H.out.2.2.1, by rw [← H3.out]; exact H.out.2.2.2.1, H.out.2.1⟩, H.out.2.2.2.2⟩
end Go.Proofs.YtaneocedklnajaaGreat

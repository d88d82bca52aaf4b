import Derived.Test.YtklnfhjgbmfilaaNat3
/- Numbers of any size in memory: up, down, small. Conditions: the lengths stay below 2 to the power of 30, shifts at most 31. -/
namespace Go.Proofs.Ytklnfhjgbmfilaa
open Go.RowKit
set_option linter.unusedVariables false

theorem toNat_ofInt64' (a : Nat) (h : a < 18446744073709551616) : (BitVec.ofInt 64 (a : Int)).toNat = a := by
  rw [BitVec.ofInt_natCast, BitVec.toNat_ofNat]; exact Nat.mod_eq_of_lt (by omega)
theorem or_u64 (a b : Nat) (ha : a < 18446744073709551616) (hb : b < 18446744073709551616) : bits .or .u64 (a : Int) (b : Int) = ((a ||| b : Nat) : Int) := by
  have hx : a ||| b < 2 ^ 64 := Nat.or_lt_two_pow (by omega) (by omega)
  show IntKind.u64.wrap ((BitVec.ofInt 64 (a : Int) ||| BitVec.ofInt 64 (b : Int)).toNat : Int) = _
  rw [BitVec.toNat_or, toNat_ofInt64' a ha, toNat_ofInt64' b hb, IntKind.wrap_u64]
  omega
theorem and_u64 (a b : Nat) (ha : a < 18446744073709551616) (hb : b < 18446744073709551616) : bits .and .u64 (a : Int) (b : Int) = ((a &&& b : Nat) : Int) := by
  have hx : a &&& b < 2 ^ 64 := Nat.and_lt_two_pow _ (by omega)
  show IntKind.u64.wrap ((BitVec.ofInt 64 (a : Int) &&& BitVec.ofInt 64 (b : Int)).toNat : Int) = _
  rw [BitVec.toNat_and, toNat_ofInt64' a ha, toNat_ofInt64' b hb, IntKind.wrap_u64]
  omega
theorem or_add {c d s : Nat} (hc : c < 2 ^ s) : c ||| 2 ^ s * d = c + 2 ^ s * d := by
  rw [Nat.or_comm, ← Nat.two_pow_add_eq_or_of_lt hc d, Nat.add_comm]
theorem pow31 {s : Nat} (h : s ≤ 31) : 2 ^ s ≤ 2147483648 := by
  have := Nat.pow_le_pow_right (show 0 < 2 by omega) h
  simpa using this

theorem up_round {xs ds : List Nat} {s k c : Nat} (hs : s ≤ 31) (ha : dOk xs) (hk : k < ds.length) (h : UpR xs ds s k c) :
    ∃ p t u v : Nat, ((xs.getD k 0 : Nat) : Int) * ((2 ^ s : Nat) : Int) = p ∧ bits .or .u64 (c : Int) (p : Int) = (t : Int) ∧ (t : Int) % 4294967296 = u ∧ (t : Int) / 4294967296 = v ∧ p < 18446744073709551616 ∧ t < 18446744073709551616 ∧ v < 4294967296 ∧ UpR xs (ds.set k u) s (k + 1) v := by
  have h1 := upR_next ha hk (t := c + 2 ^ s * xs.getD k 0) rfl h
  have h2 := h.2.1
  have h3 := dOk_at ha k
  have h5 := pow31 hs
  have h6 := h1.2.1
  rw [bse_eq] at h1 h3 h6
  have hp : 2 ^ s * xs.getD k 0 ≤ 2147483648 * 4294967295 := Nat.mul_le_mul h5 (by omega)
  refine ⟨2 ^ s * xs.getD k 0, c + 2 ^ s * xs.getD k 0, _, _, by rw [← Int.natCast_mul, Nat.mul_comm], ?_, by rw [Int.natCast_emod]; rfl, by rw [Int.natCast_ediv]; rfl, by omega, by omega, by omega, h1⟩
  rw [or_u64 _ _ (by omega) (by omega), or_add h2]
/-- A row of the call's own that is not trimmed. -/
def RetRow (w : World) (n x : Nat) (e : Ending) (w' : World) : Prop := ∃ g ds, e = .returned (.slice (some ⟨g, 0, none⟩) n n) ∧ OwnU w' w.heap.size g n ds ∧ dOk ds ∧ dval ds = x ∧ Below w.heap.size w w'
set_option maxRecDepth 20000 in
set_option maxHeartbeats 1600000 in
theorem natUp_any (a1 : Option Addr) (c1 x s : Nat) (w : World) (hx : IsU32s w a1 (digs x).length (digs x)) (hb1 : (digs x).length < 1073741824) (hs : s ≤ 31) :
    Calls Try.prog 138 #[.slice a1 (digs x).length c1, .int .i64 (s : Nat)] w (RetRow w ((digs x).length + 1) (2 ^ s * x)) := by
  obtain ⟨i0, hi, hz0, hz1, hz2⟩ := info_parts Try.infoU
  have HC := Lib.hid (And.intro hx (And.intro (digs_ok x) (show 2 ^ s * dval (digs x) = 2 ^ s * x by rw [dval_digs])))
  obtain ⟨xs, hxs⟩ : ∃ xs, digs x = xs := ⟨_, rfl⟩
  rw [hxs] at HC hb1 ⊢
  obtain ⟨m, hm⟩ : ∃ m, xs.length = m := ⟨_, rfl⟩
  rw [hm] at HC hb1 ⊢
  have HL := Lib.hid hm
  have Hm := Lib.hid (zerosU (m + 1))
  obtain ⟨P, hP⟩ : ∃ P : Nat, (2 : Int) ^ s = (P : Int) := ⟨2 ^ s, by simp⟩
  have hPn : 2 ^ s = P := by
    have : ((2 ^ s : Nat) : Int) = (P : Int) := by rw [← hP]; simp
    omega
  have hP31 := pow31 hs
  rw [hPn] at hP31
  have HP := Lib.hid hPn
  clear hx hm hxs hPn
  go_enter Try.func138, Try.ntmps138
  go_wp2_with (at_make; refine wpList_make_full _ rfl _ _ 77 rfl w.heap.size 151 i0 (.int .u32 0) 1 Try.underlying77 hi hz0 hz1 _ _ _ _ (m + 1) rfl rfl ?cL ?cC ?c1 ?c2 ?c3 ?_)
  case cL => omega
  case cC => omega
  case c1 => rw [hz2]; omega
  case c2 => unfold maxLen; omega
  case c3 => exact Nat.le_refl _
  intro w1 hown hgrow
  have hbw : Below w.heap.size w w1 := (Below.refl _ w).grown hgrow (Nat.le_refl _) (by simp)
  have hown0 : OwnU w1 w.heap.size w.heap.size (m + 1) (List.replicate (m + 1) 0) := by
    unfold OwnU
    rw [← Hm.out]
    exact hown
  have HO := Lib.hid hown0
  have Hb := Lib.hid hbw
  clear hown hgrow hown0 hbw Hm
  go_wp2
  go_loopw [15, 6] (fun i c wr => ∃ (k cv : Nat) (ds : List Nat), k ≤ m ∧ i = .int .i64 (k : Nat) ∧ c = .int .u64 (cv : Nat) ∧ cv < 4294967296 ∧ Hid (UpR xs ds s k cv ∧ OwnU wr w.heap.size w.heap.size (m + 1) ds) ∧ Below w.heap.size w wr) (fun i _ _ => m - (intOf i).toNat)
  case atStart => exact ⟨0, 0, _, Nat.zero_le _, rfl, rfl, by omega, Lib.hid ⟨upR_start _ _ _, HO.out⟩, Hb.out⟩
  case round =>
    obtain ⟨k, cv, ds, hk, rfl, rfl, hcv, HR, hbr⟩ := hrel
    by_cases hlt : k < m
    · obtain ⟨b, off, ha, hc1⟩ := (HC.out.1.below hbr).at hlt
      subst ha
      have hk0 : (0:Int) ≤ (k:Int) := by omega
      have hk1 : (k:Int) < (m:Int) := by omega
      have hk2 : (k:Int) < (m:Int) + 1 := by omega
      have hs0 : (0:Int) ≤ (s:Int) := by omega
      have hs1 : (s:Int) ≤ 31 := by omega
      have hdl := HR.out.2.len
      have hcell := HR.out.2.at (show k < m + 1 by omega)
      have hfree := HR.out.2.free k
      obtain ⟨p, t, u, v, e1, e2, e3, e4, b1, b2, b3, hU⟩ := up_round hs HC.out.2.1 (show k < ds.length by omega) HR.out.1
      have hax := dOk_at HC.out.2.1 k
      have hdx := dOk_at HR.out.1.1 k
      rw [bse_eq] at hax hdx
      rw [HP.out] at e1
      obtain ⟨ak, hak⟩ : ∃ ak, xs.getD k 0 = ak := ⟨_, rfl⟩
      obtain ⟨ck, hck⟩ : ∃ ck, ds.getD k 0 = ck := ⟨_, rfl⟩
      rw [hak] at hc1 hax e1
      rw [hck] at hcell hdx
      have HN := Lib.hid (And.intro hU (HR.out.2.set k u))
      have Hb2 := Lib.hid hbr
      clear hbr hdl hU hak hck
      go_wp2
      go_roundw
      case rel => exact ⟨k + 1, v, ds.set k u, by omega, by go_num, rfl, b3, HN, Hb2.out.setCell (p := ⟨w.heap.size, k, none⟩) (Nat.le_refl _) _⟩
      case measure => simp [intOf]; omega
    · obtain rfl : k = m := by omega
      have hR := HR.out.1
      rw [← HL.out] at hR
      have hE := upR_end (by omega) (by rw [HR.out.2.len, HL.out]) hR
      rw [HL.out, HC.out.2.2] at hE
      have hcell := HR.out.2.at (show k < k + 1 by omega)
      have hfree := HR.out.2.free k
      obtain ⟨ck, hck⟩ : ∃ ck, ds.getD k 0 = ck := ⟨_, rfl⟩
      rw [hck] at hcell
      have HE := Lib.hid (And.intro hE (HR.out.2.set k cv))
      have Hb2 := Lib.hid hbr
      have hcm : (cv : Int) % 4294967296 = (cv : Int) := by omega
      clear hbr hR hE hck
      go_wp2
      go_ret
      exact ⟨w.heap.size, ds.set k cv, rfl, HE.out.2, HE.out.1.1, HE.out.1.2, Hb2.out.setCell (p := ⟨w.heap.size, k, none⟩) (Nat.le_refl _) _⟩
theorem down_round {xs ds : List Nat} {s i c : Nat} (hs : s ≤ 31) (ha : dOk xs) (hi : i < xs.length) (hl : ds.length = xs.length) (h : DownR xs ds s (i + 1) c) :
    ∃ p t u v : Nat, (c : Int) * 4294967296 = p ∧ bits .or .u64 (p : Int) ((xs.getD i 0 : Nat) : Int) = (t : Int) ∧ (t : Int) / ((2 ^ s : Nat) : Int) = u ∧ bits .and .u64 (t : Int) (((2 ^ s : Nat) : Int) - 1) = (v : Int) ∧ p < 18446744073709551616 ∧ t < 18446744073709551616 ∧ u < 4294967296 ∧ v < 2147483648 ∧ DownR xs (ds.set i u) s i v := by
  obtain ⟨h1, hu⟩ := downR_next ha (by omega) hi hl (t := c * bse + xs.getD i 0) rfl h
  have h2 := h.2.1
  have h3 := dOk_at ha i
  have h5 := pow31 hs
  have h6 := Nat.mod_lt (c * bse + xs.getD i 0) (Nat.two_pow_pos s)
  rw [bse_eq] at h1 h3 hu h6
  refine ⟨c * 4294967296, c * 4294967296 + xs.getD i 0, _, _, by rw [Int.natCast_mul]; rfl, ?_, by rw [Int.natCast_ediv], ?_, by omega, by omega, hu, by omega, h1⟩
  · rw [or_u64 _ _ (by omega) (by omega)]
    have := or_add (c := xs.getD i 0) (d := c) (s := 32) (by simpa using h3)
    rw [Nat.or_comm, show c * 4294967296 = 2 ^ 32 * c by rw [Nat.mul_comm], this, Nat.add_comm]
  · have hp := Nat.two_pow_pos s
    rw [show (((2 ^ s : Nat) : Int) - 1) = ((2 ^ s - 1 : Nat) : Int) by omega, and_u64 _ _ (by omega) (by omega), Nat.and_two_pow_sub_one_eq_mod]
/-- What is lost, and a number of any size. -/
def RetDown (w : World) (x : Nat) (e : Ending) (w' : World) : Prop := ∃ (r : Int) (a : Option Addr) (cap : Nat), e = .returned (.tuple #[.int .u32 r, .slice a (digs x).length cap]) ∧ (digs x).length ≤ cap ∧ IsU32s w' a (digs x).length (digs x) ∧ Below w.heap.size w w'
set_option maxRecDepth 20000 in
set_option maxHeartbeats 1600000 in
theorem natDown_any (a1 : Option Addr) (c1 x s : Nat) (w : World) (hx : IsU32s w a1 (digs x).length (digs x)) (hb1 : (digs x).length < 1073741824) (hs : s ≤ 31) :
    Calls Try.prog 140 #[.slice a1 (digs x).length c1, .int .i64 (s : Nat)] w (RetDown w (x / 2 ^ s)) := by
  obtain ⟨i0, hi, hz0, hz1, hz2⟩ := info_parts Try.infoU
  have HC := Lib.hid (And.intro hx (And.intro (digs_ok x) (dval_digs x)))
  obtain ⟨xs, hxs⟩ : ∃ xs, digs x = xs := ⟨_, rfl⟩
  rw [hxs] at HC hb1 ⊢
  obtain ⟨m, hm⟩ : ∃ m, xs.length = m := ⟨_, rfl⟩
  rw [hm] at HC hb1 ⊢
  have HL := Lib.hid hm
  have Hm := Lib.hid (zerosU m)
  obtain ⟨P, hP⟩ : ∃ P : Nat, (2 : Int) ^ s = (P : Int) := ⟨2 ^ s, by simp⟩
  have hPn : 2 ^ s = P := by
    have : ((2 ^ s : Nat) : Int) = (P : Int) := by rw [← hP]; simp
    omega
  have hP31 := pow31 hs
  have hP1 : 1 ≤ P := by rw [← hPn]; exact Nat.one_le_two_pow
  rw [hPn] at hP31
  have HP := Lib.hid hPn
  clear hx hm hxs hPn
  go_enter Try.func140, Try.ntmps140
  go_wp2_with (at_make; refine wpList_make_full _ rfl _ _ 77 rfl w.heap.size 151 i0 (.int .u32 0) 1 Try.underlying77 hi hz0 hz1 _ _ _ _ m rfl rfl rfl rfl ?c1 ?c2 ?c3 ?_)
  case c1 => rw [hz2]; omega
  case c2 => unfold maxLen; omega
  case c3 => exact Nat.le_refl _
  intro w1 hown hgrow
  have hbw : Below w.heap.size w w1 := (Below.refl _ w).grown hgrow (Nat.le_refl _) (by simp)
  have hown0 : OwnU w1 w.heap.size w.heap.size m (List.replicate m 0) := by
    unfold OwnU
    rw [← Hm.out]
    exact hown
  have HO := Lib.hid hown0
  have Hb := Lib.hid hbw
  clear hown hgrow hown0 hbw Hm
  go_wp2
  go_loopw [8, 7] (fun v c wr => ∃ (k cv : Nat) (i : Int) (ds : List Nat), Hid (i = (k : Int) - 1) ∧ k ≤ m ∧ -1 ≤ i ∧ i < m ∧ v = .int .i64 i ∧ c = .int .u64 (cv : Nat) ∧ cv < 2147483648 ∧ Hid (DownR xs ds s k cv ∧ OwnU wr w.heap.size w.heap.size m ds) ∧ Below w.heap.size w wr) (fun v _ _ => (intOf v + 1).toNat)
  case atStart => exact ⟨m, 0, _, _, Lib.hid rfl, Nat.le_refl _, by omega, by omega, rfl, rfl, by omega, Lib.hid ⟨by rw [← HL.out]; exact downR_start _ _, HO.out⟩, Hb.out⟩
  case round =>
    obtain ⟨k, cv, i, ds, HI, hk, hi1, hi2, rfl, rfl, hcv, HR, hbr⟩ := hrel
    by_cases h0 : 0 ≤ i
    · obtain ⟨j, rfl⟩ := Int.eq_ofNat_of_zero_le h0
      obtain rfl : k = j + 1 := by have := HI.out; omega
      have hj : j < m := by omega
      obtain ⟨b, off, ha, hc1⟩ := (HC.out.1.below hbr).at hj
      subst ha
      have hs0 : (0:Int) ≤ (s:Int) := by omega
      have hs1 : (s:Int) ≤ 31 := by omega
      have hdl := HR.out.2.len
      have hcell := HR.out.2.at hj
      have hfree := HR.out.2.free j
      obtain ⟨p, t, u, v, e1, e2, e3, e4, b1, b2, b3, b4, hU⟩ := down_round hs HC.out.2.1 (by rw [HL.out]; exact hj) (by rw [hdl, HL.out]) HR.out.1
      have hax := dOk_at HC.out.2.1 j
      rw [bse_eq] at hax
      rw [HP.out] at e3 e4
      obtain ⟨ak, hak⟩ : ∃ ak, xs.getD j 0 = ak := ⟨_, rfl⟩
      obtain ⟨ck, hck⟩ : ∃ ck, ds.getD j 0 = ck := ⟨_, rfl⟩
      rw [hak] at hc1 hax e2
      rw [hck] at hcell
      have HN := Lib.hid (And.intro hU (HR.out.2.set j u))
      have Hb2 := Lib.hid hbr
      have hum : (u : Int) % 4294967296 = (u : Int) := by omega
      clear hbr hdl hU hak hck HI
      go_wp2
      go_roundw
      case rel => exact ⟨j, v, _, ds.set j u, Lib.hid rfl, by omega, by omega, by omega, rfl, rfl, b4, HN, Hb2.out.setCell (p := ⟨w.heap.size, j, none⟩) (Nat.le_refl _) _⟩
      case measure => simp [intOf]
    · obtain rfl : k = 0 := by have := HI.out; omega
      have hE := downR_end HR.out.1
      rw [HC.out.2.2] at hE
      have HE := Lib.hid hE
      have Hb2 := Lib.hid hbr
      have hcm : (cv : Int) % 4294967296 = (cv : Int) := by omega
      clear hbr hE
      go_wp2_with fail
      refine (trim_own w.heap.size m ds w _ (by omega) HR.out.2 Hb2.out HR.out.1.1).mono ?_
      rintro e w' h
      rw [HE.out] at h
      obtain ⟨a, cap, rfl, h1, h2, h3⟩ := h
      have H := Lib.hid (And.intro h1 (And.intro h2 h3))
      clear h1 h2 h3
      go_wp2_with fail
      go_ret2
      exact ⟨cv, a, cap, rfl, H.out.1, H.out.2.1, H.out.2.2⟩
end Go.Proofs.Ytklnfhjgbmfilaa

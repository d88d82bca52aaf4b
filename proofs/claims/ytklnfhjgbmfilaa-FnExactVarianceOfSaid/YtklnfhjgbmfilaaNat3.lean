import Derived.Test.YtklnfhjgbmfilaaNat2
/- Numbers of any size in memory: times, up, down, small. Conditions: the lengths stay below 2 to the power of 30. -/
namespace Go.Proofs.Ytklnfhjgbmfilaa
open Go.RowKit
set_option linter.unusedVariables false

theorem times_round {xs ys ds : List Nat} {i k c q : Nat} (ha : dOk xs) (hb : dOk ys) (hk : k < ys.length) (hq : i + k = q) (hl : q < ds.length) (h : TimesS xs ys ds i k c) :
    ∃ p t0 t u v : Nat, ((xs.getD i 0 : Nat) : Int) * ((ys.getD k 0 : Nat) : Int) = p ∧ ((ds.getD q 0 : Nat) : Int) + (p : Int) = t0 ∧ (c : Int) + (t0 : Int) = t ∧ (t : Int) % 4294967296 = u ∧ (t : Int) / 4294967296 = v ∧
      p < 18446744073709551616 ∧ t0 < 18446744073709551616 ∧ t < 18446744073709551616 ∧ v < 4294967296 ∧ TimesS xs ys (ds.set q u) i (k + 1) v := by
  subst hq
  obtain ⟨h1, h2⟩ := timesS_next ha hb hk hl (t := c + ds.getD (i + k) 0 + xs.getD i 0 * ys.getD k 0) rfl h
  have hv := h1.2.1
  rw [bse_eq] at h1 h2 hv
  refine ⟨xs.getD i 0 * ys.getD k 0, ds.getD (i + k) 0 + xs.getD i 0 * ys.getD k 0, c + ds.getD (i + k) 0 + xs.getD i 0 * ys.getD k 0, _, _, by rw [Int.natCast_mul], by rw [Int.natCast_add], by rw [← Int.natCast_add, Nat.add_assoc], by rw [Int.natCast_emod]; rfl, by rw [Int.natCast_ediv]; rfl, by omega, by omega, by omega, hv, h1⟩
set_option maxRecDepth 20000 in
set_option maxHeartbeats 3200000 in
theorem natTimes_any (a1 a2 : Option Addr) (c1 c2 x y : Nat) (w : World) (hx : IsU32s w a1 (digs x).length (digs x)) (hy : IsU32s w a2 (digs y).length (digs y)) (hb1 : (digs x).length < 1073741824) (hb2 : (digs y).length < 1073741824) :
    Calls Try.prog 98 #[.slice a1 (digs x).length c1, .slice a2 (digs y).length c2] w (RetNat w (x * y)) := by
  obtain ⟨i0, hi, hz0, hz1, hz2⟩ := info_parts Try.infoU
  have HC := Lib.hid (And.intro hx (And.intro hy (And.intro (digs_ok x) (And.intro (digs_ok y) (show dval (digs x) * dval (digs y) = x * y by rw [dval_digs, dval_digs])))))
  obtain ⟨xs, hxs⟩ : ∃ xs, digs x = xs := ⟨_, rfl⟩
  obtain ⟨ys, hys⟩ : ∃ ys, digs y = ys := ⟨_, rfl⟩
  rw [hxs, hys] at HC
  rw [hxs] at hb1
  rw [hys] at hb2
  rw [hxs, hys]
  obtain ⟨m, hm⟩ : ∃ m, xs.length = m := ⟨_, rfl⟩
  obtain ⟨n, hn⟩ : ∃ n, ys.length = n := ⟨_, rfl⟩
  rw [hm] at HC hb1 ⊢
  rw [hn] at HC hb2 ⊢
  obtain ⟨N, hN⟩ : ∃ N, m + n = N := ⟨_, rfl⟩
  have HN := Lib.hid hN
  have HL := Lib.hid (And.intro hm hn)
  have Hm := Lib.hid (zerosU N)
  clear hx hy hxs hys hm hn hN
  go_enter Try.func98, Try.ntmps98
  go_wp2_with (at_make; refine wpList_make_full _ rfl _ _ 77 rfl w.heap.size 151 i0 (.int .u32 0) 1 Try.underlying77 hi hz0 hz1 _ _ _ _ N rfl rfl ?cL ?cC ?c1 ?c2 ?c3 ?_)
  case cL => have := HN.out; omega
  case cC => have := HN.out; omega
  case c1 => have := HN.out; rw [hz2]; omega
  case c2 => have := HN.out; unfold maxLen; omega
  case c3 => exact Nat.le_refl _
  intro w1 hown hgrow
  have hbw : Below w.heap.size w w1 := (Below.refl _ w).grown hgrow (Nat.le_refl _) (by simp)
  have hown0 : OwnU w1 w.heap.size w.heap.size N (List.replicate N 0) := by
    unfold OwnU
    rw [← Hm.out]
    exact hown
  have HO := Lib.hid hown0
  have Hb := Lib.hid hbw
  clear hown hgrow hown0 hbw Hm
  go_wp2
  go_loopw [19] (fun i wr => ∃ (k : Nat) (ds : List Nat), k ≤ m ∧ i = .int .i64 (k : Nat) ∧ Hid (TimesR xs ys ds k ∧ OwnU wr w.heap.size w.heap.size N ds) ∧ Below w.heap.size w wr) (fun i _ => m - (intOf i).toNat)
  case atStart => exact ⟨0, _, Nat.zero_le _, rfl, Lib.hid ⟨timesR_start _ _ _, HO.out⟩, Hb.out⟩
  case round =>
    obtain ⟨i, ds, hk, rfl, HR, hbr⟩ := hrel
    obtain ⟨wo, rfl⟩ : ∃ wo : World, wo = wr := ⟨_, rfl⟩
    by_cases hlt : i < m
    · obtain ⟨b, off, ha, hc1⟩ := (HC.out.1.below hbr).at hlt
      subst ha
      have hi0 : (0:Int) ≤ (i:Int) := by omega
      have hi1 : (i:Int) < (m:Int) := by omega
      have hai := dOk_at HC.out.2.2.1 i
      rw [bse_eq] at hai
      obtain ⟨ai, hai'⟩ : ∃ ai, xs.getD i 0 = ai := ⟨_, rfl⟩
      rw [hai'] at hc1 hai
      have HA := Lib.hid hai'
      have Hb2 := Lib.hid hbr
      clear hbr hai'
      go_wp2
      go_loopw [26, 8] (fun kk cc wr => ∃ (k c : Nat) (ds : List Nat), k ≤ n ∧ kk = .int .i64 (k : Nat) ∧ cc = .int .u64 (c : Nat) ∧ c < 4294967296 ∧ Hid (TimesS xs ys ds i k c ∧ OwnU wr w.heap.size w.heap.size N ds) ∧ Below w.heap.size w wr) (fun kk _ _ => n - (intOf kk).toNat)
      case atStart => exact ⟨0, 0, ds, Nat.zero_le _, rfl, rfl, by omega, Lib.hid ⟨timesS_start HR.out.1, HR.out.2⟩, Hb2.out⟩
      case round =>
        obtain ⟨k, c, es, hkn, rfl, rfl, hc32, HS, hbr⟩ := hrel
        by_cases hlt2 : k < n
        · obtain ⟨b', off', hb', hc2⟩ := (HC.out.2.1.below hbr).at hlt2
          subst hb'
          have hk0 : (0:Int) ≤ (k:Int) := by omega
          have hk1 : (k:Int) < (n:Int) := by omega
          obtain ⟨q, hq⟩ : ∃ q, i + k = q := ⟨_, rfl⟩
          have hqN : q < N := by have := HN.out; omega
          have hq0 : (0:Int) ≤ (q:Int) := by omega
          have hq1 : (q:Int) < (N:Int) := by omega
          have hqe : (i:Int) + (k:Int) = (q:Int) := by omega
          have hqw : IntKind.i64.wrap (q:Int) = (q:Int) := IntWalk.i64_in _ (by have := HN.out; omega)
          have hdl := HS.out.2.len
          have hcell := HS.out.2.at hqN
          have hfree := HS.out.2.free q
          obtain ⟨p, t0, t, u, v, e1, e2, e3, e4, e5, b1, b2, b3, b4, hT⟩ := times_round HC.out.2.2.1 HC.out.2.2.2.1 (show k < ys.length by have := HL.out.2; omega) hq (show q < es.length by omega) HS.out.1
          have hbk := dOk_at HC.out.2.2.2.1 k
          have hoq := dOk_at HS.out.1.1 q
          rw [bse_eq] at hbk hoq
          obtain ⟨bk, hbk'⟩ : ∃ bk, ys.getD k 0 = bk := ⟨_, rfl⟩
          obtain ⟨oq, hoq'⟩ : ∃ oq, es.getD q 0 = oq := ⟨_, rfl⟩
          rw [hbk'] at hc2 hbk e1
          rw [HA.out] at e1
          rw [hoq'] at hcell hoq e2
          have HT := Lib.hid (And.intro hT (HS.out.2.set q u))
          have Hb3 := Lib.hid hbr
          clear hbr hq hdl hT hbk' hoq'
          go_wp2
          go_roundw
          case rel => exact ⟨k + 1, v, es.set q u, by omega, by go_num, rfl, b4, HT, Hb3.out.setCell (p := ⟨w.heap.size, q, none⟩) (Nat.le_refl _) _⟩
          case measure => simp [intOf]; omega
        · obtain rfl : k = n := by omega
          obtain ⟨q, hq⟩ : ∃ q, i + k = q := ⟨_, rfl⟩
          have hqN : q < N := by have := HN.out; omega
          have hq0 : (0:Int) ≤ (q:Int) := by omega
          have hq1 : (q:Int) < (N:Int) := by omega
          have hqe : (i:Int) + (k:Int) = (q:Int) := by omega
          have hqw : IntKind.i64.wrap (q:Int) = (q:Int) := IntWalk.i64_in _ (by have := HN.out; omega)
          have hcell := HS.out.2.at hqN
          have hfree := HS.out.2.free q
          have hS := HS.out.1
          rw [← HL.out.2] at hS
          have hT := timesS_end (by rw [HL.out.2, hq, HS.out.2.len]; exact hqN) hS
          rw [HL.out.2, hq] at hT
          have HT := Lib.hid (And.intro hT (HS.out.2.set q c))
          obtain ⟨oq, hoq'⟩ : ∃ oq, es.getD q 0 = oq := ⟨_, rfl⟩
          rw [hoq'] at hcell
          have Hb3 := Lib.hid hbr
          have hcm : (c : Int) % 4294967296 = (c : Int) := by omega
          clear hbr hq hT hS hoq'
          go_wp2
          go_roundw
          case rel => exact ⟨i + 1, es.set q c, by omega, by go_num, HT, Hb3.out.setCell (p := ⟨w.heap.size, q, none⟩) (Nat.le_refl _) _⟩
          case measure => simp [intOf]; omega
    · obtain rfl : i = m := by omega
      have hR := HR.out.1
      rw [← HL.out.1] at hR
      have hE := timesR_end hR
      rw [HC.out.2.2.2.2] at hE
      have HE := Lib.hid hE
      have Hb2 := Lib.hid hbr
      clear hbr hR hE
      have hNb : N < 1099511627776 := by have := HN.out; omega
      go_wp2_with fail
      refine (trim_own w.heap.size N ds w _ hNb HR.out.2 Hb2.out HR.out.1.1).mono ?_
      rintro e w' h
      rw [HE.out] at h
      obtain ⟨a, cap, rfl, h1, h2, h3⟩ := h
      have H := Lib.hid (And.intro h1 (And.intro h2 h3))
      clear h1 h2 h3
      go_wp2_with fail
      go_ret
      exact ⟨a, cap, rfl, H.out.1, H.out.2.1, H.out.2.2⟩
end Go.Proofs.Ytklnfhjgbmfilaa

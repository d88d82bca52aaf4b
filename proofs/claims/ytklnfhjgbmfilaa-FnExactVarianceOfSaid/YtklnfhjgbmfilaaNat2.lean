import Derived.Test.YtklnfhjgbmfilaaNatW
/- Numbers of any size in memory: compare, minus, times. Conditions: the lengths stay below 2 to the power of 30. -/
namespace Go.Proofs.Ytklnfhjgbmfilaa
open Go.RowKit
set_option linter.unusedVariables false

/-- The sign of c tells how x and y compare. -/
def CmpIs (x y : Nat) (c : Int) : Prop := (c < 0 ↔ x < y) ∧ (0 < c ↔ y < x)
def RetCmp (w : World) (x y : Nat) (e : Ending) (w' : World) : Prop := ∃ c : Int, -1073741824 ≤ c ∧ c ≤ 1073741824 ∧ CmpIs x y c ∧ e = .returned (.int .i64 c) ∧ Below w.heap.size w w'
theorem cmp_lens {x y : Nat} (h : (digs x).length ≠ (digs y).length) : CmpIs x y (((digs x).length : Int) - ((digs y).length : Int)) := by
  unfold CmpIs
  rcases Nat.lt_or_gt_of_ne h with h1 | h1
  · have := digs_len_lt h1
    omega
  · have := digs_len_lt h1
    omega
theorem cmp_digs {x y i : Nat} (hl : (digs x).length = (digs y).length) (hi : i < (digs x).length) (hs : ∀ j, i < j → j < (digs x).length → (digs x).getD j 0 = (digs y).getD j 0) (h : (digs x).getD i 0 < (digs y).getD i 0) : x < y := by
  have := cmp_at (digs_ok x) (digs_ok y) hl hi hs h
  rwa [dval_digs, dval_digs] at this
theorem cmp_same {x y : Nat} (hl : (digs x).length = (digs y).length) (hs : ∀ j, j < (digs x).length → (digs x).getD j 0 = (digs y).getD j 0) : x = y := by
  have : digs x = digs y := by
    apply List.ext_getElem hl
    intro i h1 h2
    have := hs i h1
    simpa [List.getD, List.getElem?_eq_getElem h1, List.getElem?_eq_getElem h2] using this
  rw [← dval_digs x, this, dval_digs]
set_option maxRecDepth 20000 in
set_option maxHeartbeats 1600000 in
theorem natCompare_any (a1 a2 : Option Addr) (c1 c2 x y : Nat) (w : World) (hx : IsU32s w a1 (digs x).length (digs x)) (hy : IsU32s w a2 (digs y).length (digs y)) (hb1 : (digs x).length < 1073741824) (hb2 : (digs y).length < 1073741824) :
    Calls Try.prog 100 #[.slice a1 (digs x).length c1, .slice a2 (digs y).length c2] w (RetCmp w x y) := by
  by_cases hll : (digs x).length = (digs y).length
  · have hsm : ∀ j, j < (digs x).length → (digs x).getD j 0 < 4294967296 ∧ (digs y).getD j 0 < 4294967296 := fun j _ => ⟨dOk_at (digs_ok x) j, dOk_at (digs_ok y) j⟩
    have HD := Lib.hid (And.intro (fun i => cmp_digs (x := x) (y := y) (i := i) hll) (And.intro (fun i => cmp_digs (x := y) (y := x) (i := i) hll.symm) (And.intro (cmp_same hll) hsm)))
    rw [← hll] at hy HD ⊢
    obtain ⟨xs, hxs⟩ : ∃ xs, digs x = xs := ⟨_, rfl⟩
    obtain ⟨ys, hys⟩ : ∃ ys, digs y = ys := ⟨_, rfl⟩
    rw [hxs] at hx hb1 HD hy ⊢
    rw [hys] at HD hy
    obtain ⟨l, hl⟩ : ∃ l, xs.length = l := ⟨_, rfl⟩
    rw [hl] at hx hb1 HD hy ⊢
    have HX := Lib.hid (And.intro hx hy)
    clear hx hy hxs hys hl hll hb2 hsm
    go_enter Try.func100, Try.ntmps100
    go_wp2
    go_loopw [5] (fun v wr => ∃ (k : Nat) (i : Int), Hid (i = (k : Int) - 1) ∧ k ≤ l ∧ -1 ≤ i ∧ i < l ∧ v = .int .i64 i ∧ Hid (∀ j, k ≤ j → j < l → xs.getD j 0 = ys.getD j 0) ∧ Below w.heap.size w wr) (fun v _ => (intOf v + 1).toNat)
    case atStart => exact ⟨l, _, Lib.hid rfl, Nat.le_refl _, by omega, by omega, rfl, Lib.hid (fun j h1 h2 => by omega), Below.refl _ _⟩
    case round =>
      obtain ⟨k, i, HI, hk, hi1, hi2, rfl, HS, hbr⟩ := hrel
      by_cases h0 : 0 ≤ i
      · obtain ⟨m, rfl⟩ := Int.eq_ofNat_of_zero_le h0
        have hm : m < l := by omega
        obtain ⟨b, off, ha, h1⟩ := (HX.out.1.below hbr).at hm
        obtain ⟨b', off', ha', h2⟩ := (HX.out.2.below hbr).at hm
        subst ha ha'
        have Hb := Lib.hid hbr
        clear hbr
        obtain ⟨d1, hd1⟩ : ∃ d, xs.getD m 0 = d := ⟨_, rfl⟩
        obtain ⟨d2, hd2⟩ : ∃ d, ys.getD m 0 = d := ⟨_, rfl⟩
        rw [hd1] at h1
        rw [hd2] at h2
        by_cases he : d1 = d2
        · subst he
          have HE := Lib.hid (And.intro hd1 hd2)
          clear hd1 hd2
          go_wp2
          go_quiet (fail)
          go_wp2
          go_roundw
          case rel =>
            refine ⟨m, _, Lib.hid rfl, by omega, by omega, by omega, rfl, Lib.hid (fun j h1 h2 => ?_), bthen Hb.out (drewN_below _ _)⟩
            by_cases e : j = m
            · subst e; rw [HE.out.1, HE.out.2]
            · exact HS.out j (by have := HI.out; omega) h2
          case measure => simp [intOf]
        · have hs : ∀ j, m < j → j < l → xs.getD j 0 = ys.getD j 0 := fun j h1 h2 => HS.out j (by have := HI.out; omega) h2
          have hne1 : ((d1 : Int) != (d2 : Int)) = true := by rw [bne_iff_ne]; omega
          have hne2 : (d1 != d2) = true := by rw [bne_iff_ne]; exact he
          have hlt := HD.out.2.2.2 m hm
          rw [hd1, hd2] at hlt
          by_cases hc : (d1 : Int) < (d2 : Int)
          · have HF := Lib.hid (HD.out.1 m hm hs (by rw [hd1, hd2]; omega))
            clear hs hd1 hd2 he hlt
            go_wp2
            go_quiet (fail)
            go_wp2
            go_quiet (fail)
            go_wp2
            go_ret
            exact ⟨-1, by omega, by omega, ⟨⟨fun _ => HF.out, fun _ => by omega⟩, ⟨fun h => by omega, fun h => by have := HF.out; omega⟩⟩, rfl, bthen Hb.out (bthen (drewN_below _ _) (drewN_below _ _))⟩
          · have HF := Lib.hid (HD.out.2.1 m hm (fun j h1 h2 => (hs j h1 h2).symm) (by rw [hd1, hd2]; omega))
            have hc' : decide ((d1 : Int) < (d2 : Int)) = false := decide_eq_false hc
            clear hs hd1 hd2 he hlt
            go_wp2
            go_quiet (fail)
            go_wp2
            go_quiet (fail)
            go_wp2
            go_ret
            exact ⟨1, by omega, by omega, ⟨⟨fun h => by omega, fun h => by have := HF.out; omega⟩, ⟨fun _ => HF.out, fun _ => by omega⟩⟩, rfl, bthen Hb.out (bthen (drewN_below _ _) (drewN_below _ _))⟩
      · have HF := Lib.hid (HD.out.2.2.1 (fun j hj => HS.out j (by have := HI.out; omega) hj))
        have Hb := Lib.hid hbr
        clear hbr
        go_wp2
        go_ret
        exact ⟨0, by omega, by omega, ⟨⟨fun h => by omega, fun h => by have := HF.out; omega⟩, ⟨fun h => by omega, fun h => by have := HF.out; omega⟩⟩, rfl, Hb.out⟩
  · have HC := Lib.hid (cmp_lens hll)
    obtain ⟨l1, hl1⟩ : ∃ l, (digs x).length = l := ⟨_, rfl⟩
    obtain ⟨l2, hl2⟩ : ∃ l, (digs y).length = l := ⟨_, rfl⟩
    rw [hl1, hl2] at HC hll ⊢
    rw [hl1] at hb1
    rw [hl2] at hb2
    have h1 : ((l1 : Int) != (l2 : Int)) = true := by rw [bne_iff_ne]; omega
    have h2 : (l1 != l2) = true := by rw [bne_iff_ne]; exact hll
    clear hx hy hl1 hl2 hll
    go_enter Try.func100, Try.ntmps100
    go_wp2
    go_ret
    exact ⟨(l1 : Int) - (l2 : Int), by omega, by omega, HC.out, rfl, Below.refl _ _⟩
theorem minus_round {xs ys ds : List Nat} {k r : Nat} (hax : dOk xs) (hay : dOk ys) (hk : k < ds.length) (h : MinusR xs ys ds k r) :
    ∃ z1 z : Int, ((xs.getD k 0 : Nat) : Int) - (r : Int) = z1 ∧ z1 - ((ys.getD k 0 : Nat) : Int) = z ∧ -4294967296 ≤ z1 ∧ z1 ≤ 4294967295 ∧ -4294967296 ≤ z ∧ z ≤ 4294967295 ∧
      (z < 0 → ∃ d : Nat, z + 4294967296 = d ∧ d < 4294967296 ∧ MinusR xs ys (ds.set k d) (k + 1) 1) ∧ (0 ≤ z → ∃ d : Nat, z = d ∧ d < 4294967296 ∧ MinusR xs ys (ds.set k d) (k + 1) 0) := by
  have h2 := h.2.1
  have h3 := dOk_at hax k
  have h4 := dOk_at hay k
  rw [bse_eq] at h3 h4
  refine ⟨_, _, rfl, rfl, by omega, by omega, by omega, by omega, fun hz => ?_, fun hz => ?_⟩
  · refine ⟨((xs.getD k 0 : Nat) - (r : Int) - (ys.getD k 0 : Nat) + 4294967296).toNat, by omega, by omega, ?_⟩
    refine minusR_next (by rw [bse_eq]; omega) (by omega) (by rw [bse_eq]; omega) hk h
  · refine ⟨((xs.getD k 0 : Nat) - (r : Int) - (ys.getD k 0 : Nat)).toNat, by omega, by omega, ?_⟩
    refine minusR_next (by rw [bse_eq]; omega) (by omega) (by rw [bse_eq]; omega) hk h
set_option maxRecDepth 20000 in
set_option maxHeartbeats 3200000 in
theorem natMinus_F (a1 a2 : Option Addr) (m n cm cn : Nat) (xs ys : List Nat) (w : World) (hx : IsU32s w a1 m xs) (hy : IsU32s w a2 n ys) (hox : dOk xs) (hoy : dOk ys) (hnm : n ≤ m) (hm : m < 1073741824) (hle : dval ys ≤ dval xs) :
    Calls Try.prog 101 #[.slice a1 m cm, .slice a2 n cn] w (RetNatF w (dval xs - dval ys)) := by
  obtain ⟨i0, hi, hz0, hz1, hz2⟩ := info_parts Try.infoU
  have HC := Lib.hid (And.intro hx (And.intro hy (And.intro hox (And.intro hoy hle))))
  have Hm := Lib.hid (zerosU m)
  clear hx hy hox hoy hle
  go_enter Try.func101, Try.ntmps101
  go_wp2_with (at_make; refine wpList_make_full _ rfl _ _ 77 rfl w.heap.size 151 i0 (.int .u32 0) 1 Try.underlying77 hi hz0 hz1 _ _ _ _ m rfl rfl rfl rfl ?c1 ?c2 ?c3 ?_)
  case c1 => rw [hz2]; omega
  case c2 => unfold maxLen; omega
  case c3 => exact Nat.le_refl _
  intro w1 hown hgrow
  have hbw : Below w.heap.size w w1 := (Below.refl _ w).grown hgrow (Nat.le_refl _) (by simp)
  have hown0 : OwnU w1 w.heap.size w.heap.size m (List.replicate m 0) := by
    unfold OwnU
    rw [← Hm.out]
    exact hown
  have HO := Lib.hid hown0
  have Hb := Lib.hid hbw
  clear hown hgrow hown0 hbw Hm
  go_wp2
  go_loopw [14, 6] (fun i c wr => ∃ (k r : Nat) (ds : List Nat), k ≤ m ∧ i = .int .i64 (k : Nat) ∧ c = .int .i64 (r : Nat) ∧ r ≤ 1 ∧ Hid (MinusR xs ys ds k r ∧ OwnU wr w.heap.size w.heap.size m ds) ∧ Below w.heap.size w wr) (fun i _ _ => m - (intOf i).toNat)
  case atStart => exact ⟨0, 0, _, Nat.zero_le _, rfl, rfl, by omega, Lib.hid ⟨minusR_start _ _ _, HO.out⟩, Hb.out⟩
  case round =>
    obtain ⟨k, r, ds, hk, rfl, rfl, hr1, HR, hbr⟩ := hrel
    by_cases hlt : k < m
    · have hxs := (HC.out.1.below hbr)
      have hys := (HC.out.2.1.below hbr)
      have hyl := hys.1
      have hcell := HR.out.2.at hlt
      have hfree := HR.out.2.free k
      have hdl := HR.out.2.len
      obtain ⟨z1, z, e1, e2, b1, b2, b3, b4, hneg, hpos⟩ := minus_round HC.out.2.2.1 HC.out.2.2.2.1 (show k < ds.length by omega) HR.out.1
      have Hb2 := Lib.hid hbr
      have hk0 : (0:Int) ≤ (k:Int) := by omega
      have hk1 : (k:Int) < (m:Int) := by omega
      obtain ⟨ck, hck⟩ : ∃ ck, ds.getD k 0 = ck := ⟨_, rfl⟩
      rw [hck] at hcell
      have hax := dOk_at HC.out.2.2.1 k
      have hay := dOk_at HC.out.2.2.2.1 k
      rw [bse_eq] at hax hay
      obtain ⟨ak, hak⟩ : ∃ ak, xs.getD k 0 = ak := ⟨_, rfl⟩
      obtain ⟨bk, hbk⟩ : ∃ bk, ys.getD k 0 = bk := ⟨_, rfl⟩
      have hbk0 : n ≤ k → bk = 0 := fun h => by rw [← hbk]; simp [List.getD, List.getElem?_eq_none (show ys.length ≤ k by omega)]
      rw [hak] at e1 hax
      rw [hbk] at e2 hay
      obtain ⟨b, off, ha, hc1⟩ := hxs.at hlt
      subst ha
      rw [hak] at hc1
      have HRO := Lib.hid HR.out.2
      by_cases h2 : k < n
      · obtain ⟨b', off', hb', hc2⟩ := hys.at h2
        subst hb'
        rw [hbk] at hc2
        have hi2 : (k:Int) < (n:Int) := by omega
        by_cases hz : z < 0
        · obtain ⟨d, e3, hd, hM⟩ := hneg hz
          have HN := Lib.hid (And.intro hM (HRO.out.set k d))
          clear hxs hys hyl hdl hbr hck hak hbk hbk0 hneg hpos hM HRO
          go_wp2
          go_roundw
          case rel => exact ⟨k + 1, 1, ds.set k d, by omega, by go_num, rfl, by omega, HN, Hb2.out.setCell (p := ⟨w.heap.size, k, none⟩) (Nat.le_refl _) _⟩
          case measure => simp [intOf]; omega
        · obtain ⟨d, e3, hd, hM⟩ := hpos (by omega)
          subst e3
          have HN := Lib.hid (And.intro hM (HRO.out.set k d))
          clear hxs hys hyl hdl hbr hck hak hbk hbk0 hneg hpos hM HRO
          go_wp2
          go_roundw
          case rel => exact ⟨k + 1, 0, ds.set k d, by omega, by go_num, rfl, by omega, HN, Hb2.out.setCell (p := ⟨w.heap.size, k, none⟩) (Nat.le_refl _) _⟩
          case measure => simp [intOf]; omega
      · obtain rfl : bk = 0 := hbk0 (by omega)
        obtain rfl : z1 = z := by omega
        have hi2 : ¬ (k:Int) < (n:Int) := by omega
        by_cases hz : z1 < 0
        · obtain ⟨d, e3, hd, hM⟩ := hneg hz
          have HN := Lib.hid (And.intro hM (HRO.out.set k d))
          clear hxs hys hyl hdl hbr hck hak hbk hbk0 hneg hpos hM HRO e2
          go_wp2
          go_roundw
          case rel => exact ⟨k + 1, 1, ds.set k d, by omega, by go_num, rfl, by omega, HN, Hb2.out.setCell (p := ⟨w.heap.size, k, none⟩) (Nat.le_refl _) _⟩
          case measure => simp [intOf]; omega
        · obtain ⟨d, e3, hd, hM⟩ := hpos (by omega)
          subst e3
          have HN := Lib.hid (And.intro hM (HRO.out.set k d))
          clear hxs hys hyl hdl hbr hck hak hbk hbk0 hneg hpos hM HRO e2
          go_wp2
          go_roundw
          case rel => exact ⟨k + 1, 0, ds.set k d, by omega, by go_num, rfl, by omega, HN, Hb2.out.setCell (p := ⟨w.heap.size, k, none⟩) (Nat.le_refl _) _⟩
          case measure => simp [intOf]; omega
    · obtain rfl : k = m := by omega
      have hR := HR.out.1
      rw [← HC.out.1.1] at hR
      have HE := Lib.hid (minusR_end HC.out.2.2.1 HC.out.2.2.2.2 (by rw [HC.out.1.1, HC.out.2.1.1]; exact hnm) (by rw [HR.out.2.len, HC.out.1.1]) hR)
      have Hb2 := Lib.hid hbr
      clear hbr hR
      go_wp2_with fail
      refine (trim_own_F w.heap.size k ds w _ (by omega) HR.out.2 Hb2.out HR.out.1.1).mono ?_
      rintro e w' h
      rw [HE.out] at h
      obtain ⟨a, cap, rfl, h1, h2, h3, h4⟩ := h
      have H := Lib.hid (And.intro h1 (And.intro h2 (And.intro h3 h4)))
      clear h1 h2 h3 h4
      go_wp2_with fail
      go_ret
      exact ⟨a, cap, rfl, H.out.1, H.out.2.1, H.out.2.2⟩
theorem natMinus_any (a1 a2 : Option Addr) (m n cm cn : Nat) (xs ys : List Nat) (w : World) (hx : IsU32s w a1 m xs) (hy : IsU32s w a2 n ys) (hox : dOk xs) (hoy : dOk ys) (hnm : n ≤ m) (hm : m < 1073741824) (hle : dval ys ≤ dval xs) :
    Calls Try.prog 101 #[.slice a1 m cm, .slice a2 n cn] w (RetNat w (dval xs - dval ys)) :=
  (natMinus_F a1 a2 m n cm cn xs ys w hx hy hox hoy hnm hm hle).mono fun e w' ⟨a, cap, h1, h2, h3, h4, _⟩ => ⟨a, cap, h1, h2, h3, h4⟩
end Go.Proofs.Ytklnfhjgbmfilaa

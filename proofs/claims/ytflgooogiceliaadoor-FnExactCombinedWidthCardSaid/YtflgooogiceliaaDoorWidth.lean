import Derived.Test.YtflgooogiceliaaDoorWidthP
/- The width of combined registers: the program's walk. Condition: the text is shorter than the model's greatest length. -/
namespace Go.Proofs.YtflgooogiceliaaDoor
open Go.RowKit
set_option linter.unusedVariables false

set_option maxRecDepth 20000 in
set_option maxHeartbeats 400000 in
theorem combinedWidth_any (s : ByteArray) (a : Option Addr) (len cap : Nat) (zs : List Int) (w : World) (hs : s.size ≤ maxLen) (hb : len ≤ 1048576) (hx : IsInts w a len zs) :
    Calls Tryd.prog 17 #[.string s, .slice a len cap] w (RetVal w (cwOk s zs) (cwV s zs)) := by
  obtain rfl := hx.1
  have HX := Lib.hid hx
  cases ht : isT s with
  | false =>
    have hno : cwOk s zs = false := by unfold cwOk; rw [ht]; rfl
    rw [cw_no hno, hno]
    have HT := Lib.hid ht
    clear ht hno hx
    go_enter Tryd.func17, Tryd.ntmps17
    go_wp2_with fail
    refine (isTable_any s _ hs).mono ?_
    rintro e w1 ⟨rfl, hb1⟩
    rw [HT.out]
    go_wp2
    go_ret2
    exact ⟨rfl, hb1⟩
  | true =>
    obtain ⟨k, hi, hk, hsz, hB⟩ := isT_iff ht
    have hs64 : s.size ≤ 64 := by have := pow_le_64 k hk; omega
    have HI := Lib.hid (fun w => inputs_any s k w hk hsz)
    by_cases hlk : zs.length = k
    · subst hlk
      cases hal : allR zs 0 16 with
      | false =>
        have hno : cwOk s zs = false := by unfold cwOk; rw [hal, Bool.and_false]
        rw [cw_no hno, hno]
        have HT := Lib.hid (And.intro ht hal)
        clear ht hno hx hi hsz hB hal
        go_enter Tryd.func17, Tryd.ntmps17
        go_wp2_with fail
        refine (isTable_any s _ hs).mono ?_
        rintro e w1 ⟨rfl, hb1⟩
        rw [HT.out.1]
        have Hb1 := Lib.hid hb1
        have HX1 := Lib.hid (HX.out.below hb1)
        clear hb1
        go_wp2_with fail
        refine (length_any _ _ _ _).mono ?_
        rintro e w' ⟨rfl, rfl⟩
        go_wp2_with fail
        refine (HI.out _).mono ?_
        rintro e w' ⟨rfl, rfl⟩
        go_wp2_with fail
        refine (allIn_any _ _ _ zs _ _ _ (by omega) HX1.out).mono ?_
        rintro e w2 ⟨rfl, hb2⟩
        rw [HT.out.2]
        have HB := Lib.hid (bthen Hb1.out hb2)
        clear hb2
        go_wp2
        go_ret2
        exact ⟨rfl, HB.out⟩
      | true =>
        have hyes : cwOk s zs = true := by
          unfold cwOk
          rw [ht, hal, inpI_some hi]
          simp
        have hv : cwV s zs = cwF (nfB (bitF s)) zs s.size := by unfold cwV; rw [hyes]; rfl
        rw [hyes]
        have h16 := allR_16 hal
        have HC := Lib.hid (fun w => normalForm_any s zs.length w hk hsz hB)
        obtain ⟨hNs, hNb⟩ := nfT_txt (s := s) hk hsz
        obtain ⟨N, hN⟩ : ∃ N, strOfNums (nfT s zs.length) = N := ⟨_, rfl⟩
        obtain ⟨g, hg⟩ : ∃ g, nfB (bitF s) = g := ⟨_, rfl⟩
        obtain ⟨V, hV⟩ : ∃ V, cwV s zs = V := ⟨_, rfl⟩
        rw [hN] at HC
        rw [hN] at hNs hNb
        rw [hg] at hNb hv
        rw [hV] at hv ⊢
        rw [← hNs] at hv hs64
        have hl7 : zs.length < 7 := by omega
        have HT := Lib.hid (And.intro ht (And.intro hal (And.intro hv (And.intro hNb h16))))
        clear ht hi hsz hB hv hV hN hg hNs hNb hal h16 hyes hx
        go_enter Tryd.func17, Tryd.ntmps17
        go_wp2_with fail
        refine (isTable_any s _ hs).mono ?_
        rintro e w1 ⟨rfl, hb1⟩
        rw [HT.out.1]
        have Hb1 := Lib.hid hb1
        have HX1 := Lib.hid (HX.out.below hb1)
        clear hb1
        go_wp2_with fail
        refine (length_any _ _ _ _).mono ?_
        rintro e w' ⟨rfl, rfl⟩
        go_wp2_with fail
        refine (HI.out _).mono ?_
        rintro e w' ⟨rfl, rfl⟩
        go_wp2_with fail
        refine (allIn_any _ _ _ zs _ _ _ (by omega) HX1.out).mono ?_
        rintro e w2 ⟨rfl, hb2⟩
        rw [HT.out.2.1]
        have HB2 := Lib.hid (bthen Hb1.out hb2)
        clear hb2 HX1 Hb1
        go_wp2_with fail
        refine (HC.out _).mono ?_
        rintro e w3 ⟨rfl, hb3⟩
        have HB := Lib.hid (bthen HB2.out hb3)
        clear hb3 HB2 HC HI
        go_wp2
        go_loopg [6] N.size (fun gh be wr => ∃ (m : Nat) (y : Int), m + gh = N.size ∧ be = .int .i64 y ∧ 0 ≤ y ∧ y ≤ m * 16777216 ∧ Hid (cwF g zs m = y) ∧ wr = w3.iter N m)
        case atStart => exact ⟨0, 0, by omega, rfl, by omega, by omega, Lib.hid rfl, rfl⟩
        case round =>
          obtain ⟨m, y, hm, rfl, hy0, hy1, HN, rfl⟩ := hrel
          cases gk with
          | zero =>
            obtain rfl : m = N.size := by omega
            have hnx := fun ty => run_next_end (P := Tryd.prog) w3 N N.size ty (Nat.lt_irrefl _)
            have HV := Lib.hid (show y = V by rw [HT.out.2.2.1, HN.out])
            have HBe := Lib.hid (show Below w.heap.size w (w3.iter N N.size) from HB.out.alloc HB.out.size _)
            go_wp2
            go_ret2
            exact ⟨by rw [← HV.out]; rfl, HBe.out⟩
          | succ gh =>
            have hlt : m < N.size := by omega
            have hst : cwF g zs (m + 1) = if g m then cwF g zs m + pdF zs m zs.length else cwF g zs m := rfl
            rw [HN.out] at hst
            have hby := HT.out.2.2.2.1 m hlt
            have hrfl : ∀ b : Bool, (48 + (if b then 1 else 0) : Int) = if b then 49 else 48 := by decide
            rw [hrfl] at hby
            have ha : (N[m]'hlt).toNat < 128 := by
              cases hgm : g m <;> simp only [hgm, Bool.false_eq_true, if_false, if_true] at hby <;> omega
            have hnx : ∀ ty, _ := fun ty => run_next_ascii (P := Tryd.prog) w3 N m ty hlt ha
            rw [hby] at hnx
            clear ha hrfl hby
            cases hgm : g m with
            | false =>
              rw [hgm] at hst
              simp only [hgm, Bool.false_eq_true, if_false] at hst hnx
              have HN2 := Lib.hid hst
              clear hgm hst
              go_wp2
              go_roundg gh
              case measure => omega
              case rel => exact ⟨m + 1, y, by omega, rfl, hy0, by omega, HN2, rfl⟩
            | true =>
              rw [hgm] at hst
              simp only [hgm, if_true] at hst hnx
              have HS := Lib.hid hst
              obtain ⟨wq, hwq⟩ : ∃ wq, w3.iter N (m + 1) = wq := ⟨_, rfl⟩
              rw [hwq] at hnx
              have HWQ := Lib.hid hwq
              have HXq := Lib.hid (HX.out.below (show Below w.heap.size w wq by rw [← hwq]; exact HB.out.alloc HB.out.size _))
              clear hst hgm hwq
              go_wp2
              go_loopw [38, 9] (fun i v wr => ∃ (j : Nat) (p : Int), j ≤ zs.length ∧ i = .int .i64 (j : Nat) ∧ v = .int .i64 p ∧ 0 ≤ p ∧ p ≤ 16777216 ∧ Hid (pdF zs m j = p) ∧ wr = wq) (fun i _ _ => zs.length - (intOf i).toNat)
              case atStart => exact ⟨0, 1, by omega, rfl, rfl, by omega, by omega, Lib.hid rfl, rfl⟩
              case round =>
                obtain ⟨j, p, hj, rfl, rfl, hp0, hp1, HP, rfl⟩ := hrel
                by_cases hjl : j < zs.length
                · obtain ⟨bl, off, had, hc⟩ := HXq.out.at hjl
                  subst had
                  have hj0 : (0:Int) ≤ (j:Int) := by omega
                  have hji : (j:Int) < (zs.length:Int) := by omega
                  have hst : pdF zs m (j + 1) = if m.testBit j then pdF zs m j * zs.getD j 0 else pdF zs m j := rfl
                  have hbd := pdF_le HT.out.2.2.2.2 m (j + 1) (by omega)
                  rw [HP.out] at hst
                  obtain ⟨z, hz⟩ : ∃ z, zs.getD j 0 = z := ⟨_, rfl⟩
                  rw [hz] at hc hst
                  obtain ⟨q, hq⟩ : ∃ q, m / 2 ^ j = q := ⟨_, rfl⟩
                  have hqi : (m : Int) / 2 ^ j = ((q : Nat) : Int) := by rw [← hq]; simp
                  have hqm : q ≤ m := by rw [← hq]; exact Nat.div_le_self _ _
                  obtain ⟨r, hr⟩ : ∃ r, q % 2 = r := ⟨_, rfl⟩
                  have hand : bits .and .i64 (q : Int) 1 = ((r : Nat) : Int) := by
                    rw [← hr]
                    have := and_i64 q 1 (by omega) (by omega)
                    rw [show q &&& 1 = q % 2 from Nat.and_one_is_mod q] at this
                    exact this
                  have htb : m.testBit j = decide (r = 1) := by rw [Nat.testBit_eq_decide_div_mod_eq, hq, hr]
                  rw [htb] at hst
                  by_cases hr1 : r = 1
                  · subst hr1
                    simp only [decide_true, if_true] at hst
                    obtain ⟨t, ht⟩ : ∃ t, p * z = t := ⟨_, rfl⟩
                    rw [ht] at hst
                    rw [hst] at hbd
                    have HP2 := Lib.hid hst
                    clear hst hz hq hr htb
                    go_wp2
                    go_roundw
                    case rel => exact ⟨j + 1, t, by omega, by go_num, rfl, hbd.1, hbd.2, HP2, trivial⟩
                    case measure => simp [intOf]; omega
                  · obtain rfl : r = 0 := by omega
                    simp only [Nat.zero_ne_one, decide_false, Bool.false_eq_true, if_false] at hst
                    have HP2 := Lib.hid hst
                    clear hst hz hq hr htb hbd
                    go_wp2
                    go_roundw
                    case rel => exact ⟨j + 1, p, by omega, by go_num, rfl, hp0, hp1, HP2, trivial⟩
                    case measure => simp [intOf]; omega
                · obtain rfl : j = zs.length := by omega
                  have HN2 := Lib.hid (show cwF g zs (m + 1) = y + p by rw [HS.out, HP.out])
                  have hyp : 0 ≤ y + p ∧ y + p ≤ (m + 1) * 16777216 := by omega
                  go_wp2
                  go_roundg gh
                  case measure => omega
                  case rel => exact ⟨m + 1, y + p, by omega, rfl, hyp.1, by omega, HN2, HWQ.out.symm⟩
    · have hno : cwOk s zs = false := by
        unfold cwOk
        rw [inpI_some hi]
        have : (((zs.length : Nat) : Int) == ((k : Nat) : Int)) = false := by rw [beq_eq_false_iff_ne]; omega
        rw [this, Bool.and_false, Bool.false_and]
      rw [cw_no hno, hno]
      have HT := Lib.hid ht
      have hlki : ¬ (zs.length : Int) = (k : Int) := by omega
      clear ht hno hx hi hsz hB
      go_enter Tryd.func17, Tryd.ntmps17
      go_wp2_with fail
      refine (isTable_any s _ hs).mono ?_
      rintro e w1 ⟨rfl, hb1⟩
      rw [HT.out]
      have Hb1 := Lib.hid hb1
      clear hb1
      go_wp2_with fail
      refine (length_any _ _ _ _).mono ?_
      rintro e w' ⟨rfl, rfl⟩
      go_wp2_with fail
      refine (HI.out _).mono ?_
      rintro e w' ⟨rfl, rfl⟩
      go_wp2
      go_ret2
      exact ⟨rfl, Hb1.out⟩
end Go.Proofs.YtflgooogiceliaaDoor

import Derived.Test.YtflgooogiceliaaDoorComb2
/- Bits of several streams combined by a table: the reference and the law. Condition: the texts are shorter than the model's greatest length. -/
namespace Go.Proofs.YtflgooogiceliaaDoor
open Go.RowKit
set_option linter.unusedVariables false

theorem allOk_of {n : Nat} {ss : List ByteArray} (h : ∀ j, j < ss.length → badS n (ss.getD j E0) = false) : allOk n ss = true := by
  unfold allOk
  rw [List.all_eq_true]
  intro x hx
  obtain ⟨j, hj, rfl⟩ := List.getElem_of_mem hx
  have := h j hj
  simp only [List.getD, List.getElem?_eq_getElem hj, Option.getD_some] at this
  rw [this]; rfl
theorem allOk_not {n : Nat} {ss : List ByteArray} {j : Nat} (hj : j < ss.length) (h : badS n (ss.getD j E0) = true) : allOk n ss = false := by
  unfold allOk
  rw [List.all_eq_false]
  refine ⟨ss[j], List.getElem_mem hj, ?_⟩
  simp only [List.getD, List.getElem?_eq_getElem hj, Option.getD_some] at h
  rw [h]; simp
structure CbF (tb : ByteArray) (a : Option Addr) (len : Nat) (ss : List ByteArray) (T : Nat) : Prop where
  suc : ∀ T, cbO tb ss (T + 1) = cbO tb ss T ++ [byI tb (cbX ss T ss.length)]
  ln : ∀ T, (cbO tb ss T).length = T
  byt : ∀ t j, j < len → t < T → ∃ S : ByteArray, ss.getD j E0 = S ∧ S.size = T ∧ ∃ h0, (((S[t]'h0).toNat : Nat) : Int) = if cbB ss t j then 49 else 48
  lt : ∀ t m, cbX ss t m < 2 ^ m
  xs : ∀ t m, cbX ss t (m + 1) = cbX ss t m ||| (if cbB ss t m then 2 ^ m else 0)
  cl : ∀ (w' : World), IsStrs w' a len ss → 0 < len → ∃ (b0 off : Nat) (S0 : ByteArray), a = some ⟨b0, off, none⟩ ∧ w'.cell? ⟨b0, off, none⟩ = some (.string S0) ∧ S0.size = T
  nT : n0S ss = T
  T0 : len = 0 → T = 0
  T4 : T ≤ 400
theorem cbF {tb : ByteArray} {a : Option Addr} {len : Nat} {ss : List ByteArray} (hl : ss.length = len) (hA : allOk (n0S ss) ss = true) : ∃ T, CbF tb a len ss T := by
  refine ⟨n0S ss, cbO_succ tb ss, cbO_len tb ss, fun t j hj ht => cbB_byte hA (by rw [hl]; exact hj) ht, cbX_lt ss, fun _ _ => rfl, fun w' h h0 => ?_, rfl, fun h0 => ?_, ?_⟩
  · obtain ⟨b0, off, ha, hc⟩ := h.at h0
    exact ⟨b0, off, _, ha, by simpa using hc, rfl⟩
  · unfold n0S
    have : ss = [] := List.eq_nil_of_length_eq_zero (by omega)
    subst this; rfl
  · rcases Nat.eq_zero_or_pos ss.length with h | h
    · unfold n0S
      have : ss = [] := List.eq_nil_of_length_eq_zero h
      subst this; exact Nat.zero_le _
    · obtain ⟨h1, h2⟩ := allOk_at hA h
      have := isB_size h1
      unfold n0S at *; omega
set_option maxRecDepth 100000 in
set_option maxHeartbeats 1000000 in
theorem specCombineBits_any (tb : ByteArray) (a : Option Addr) (len cap : Nat) (ss : List ByteArray) (w : World) (ht : tb.size ≤ maxLen) (hb : len ≤ 1048576) (hz : ∀ j, (ss.getD j E0).size ≤ maxLen) (hx : IsStrs w a len ss) :
    Calls Tryd.prog 22 #[.string tb, .slice a len cap] w (RetTx w (cbOk tb ss) (cbV tb ss)) := by
  cases hT : isT tb with
  | false =>
    have ho : cbOk tb ss = false := by unfold cbOk; rw [hT]; rfl
    rw [show cbV tb ss = [] by unfold cbV; rw [ho]; rfl, ho]
    have HT := Lib.hid hT
    clear hT ho
    go_enter Tryd.func22, Tryd.ntmps22
    go_wp2_with fail
    refine (l04Table_any tb _ ht).mono ?_
    rintro e w1 ⟨rfl, rfl⟩
    rw [HT.out]
    go_wp2_with fail
    go_ret2
    exact retTx_no (Below.refl _ _)
  | true =>
    obtain ⟨k, hk, hk7, hsz, hB⟩ := isT_iff hT
    have hinp : inpI tb = (k : Int) := by unfold inpI; rw [hk]
    have HI := Lib.hid (fun w => l04Inputs_any tb w ht)
    rw [hinp] at HI
    have hl := hx.1
    by_cases hlk : len = k
    · have HCV := Lib.hid (show allOk (n0S ss) ss = false → cbOk tb ss = false ∧ cbV tb ss = [] from fun h => by
        have ho : cbOk tb ss = false := by unfold cbOk; rw [hT, h]; simp
        exact ⟨ho, by unfold cbV; rw [ho]; rfl⟩)
      have HCO := Lib.hid (show allOk (n0S ss) ss = true → cbOk tb ss = true ∧ cbV tb ss = cbO tb ss (n0S ss) from fun h => by
        have ho : cbOk tb ss = true := by unfold cbOk; rw [hT, h, decide_eq_true (by rw [hinp]; omega)]; rfl
        exact ⟨ho, by unfold cbV; rw [ho]; rfl⟩)
      obtain ⟨d, hd⟩ : ∃ d, cbOk tb ss = d := ⟨_, rfl⟩
      obtain ⟨z, hz'⟩ : ∃ z, cbV tb ss = z := ⟨_, rfl⟩
      rw [hd, hz'] at HCV HCO ⊢
      clear hd hz'
      have HT := Lib.hid hT
      have HX := Lib.hid (And.intro hx hz)
      have hne : ((len : Int) != (k : Int)) = false := by simp [hlk]
      have HL := Lib.hid hl
      have HK := Lib.hid (show tb.size = 2 ^ len by rw [hlk]; exact hsz)
      have HBt := Lib.hid hB
      have hl7 : len < 7 := by omega
      have HBI := Lib.hid (fun (s : ByteArray) (hs : s.size ≤ maxLen) (w : World) => (l01Bits_any s w hs).mono (R' := fun e w' => e = .returned (.bool (isB s)) ∧ w' = w) (fun _ _ h => ⟨h.1, h.2.symm⟩))
      clear hT hx hz hk hinp hlk hl hsz hB
      go_enter Tryd.func22, Tryd.ntmps22
      go_wp2_with fail
      refine (l04Table_any tb _ ht).mono ?_
      rintro e w1 ⟨rfl, rfl⟩
      rw [HT.out]
      go_wp2_with fail
      refine (HI.out _).mono ?_
      rintro e w1 ⟨rfl, rfl⟩
      go_wp2
      go_loopw [6] (fun i wa => ∃ m : Nat, m ≤ len ∧ i = .int .i64 (m : Nat) ∧ Hid (∀ j, j < m → badS (n0S ss) (ss.getD j E0) = false) ∧ Hid (Below w.heap.size w wa)) (fun i _ => len - (intOf i).toNat)
      case atStart => exact ⟨0, Nat.zero_le _, rfl, Lib.hid (fun j hj => absurd hj (Nat.not_lt_zero j)), Lib.hid (Below.refl _ _)⟩
      case round =>
        obtain ⟨m, hm, rfl, HA, HQ⟩ := hrel
        by_cases hlt : m < len
        · obtain ⟨b0, off, ha0, hc0⟩ := (HX.out.1.below HQ.out).at (show 0 < len by omega)
          obtain ⟨b1, off1, ha1, hc1⟩ := (HX.out.1.below HQ.out).at hlt
          rw [ha0] at ha1
          simp only [Option.some.injEq, Addr.mk.injEq] at ha1
          obtain ⟨rfl, rfl, _⟩ := ha1
          rw [Nat.add_zero] at hc0
          have hm0 : (0:Int) ≤ (m:Int) := by omega
          have hmi : (m:Int) < (len:Int) := by omega
          have hl0i : (0:Int) < (len:Int) := by omega
          have HBS := Lib.hid (HBI.out (ss.getD m E0) (HX.out.2 m))
          have hbad : badS (n0S ss) (ss.getD m E0) = (!isB (ss.getD m E0) || decide ((ss.getD m E0).size ≠ (ss.getD 0 E0).size)) := rfl
          have HNX : Hid (badS (n0S ss) (ss.getD m E0) = false → ∀ j, j < m + 1 → badS (n0S ss) (ss.getD j E0) = false) := Lib.hid (fun h j hj => by
            by_cases e : j = m
            · subst e; exact h
            · exact HA.out j (by omega))
          have HNO : Hid (badS (n0S ss) (ss.getD m E0) = true → allOk (n0S ss) ss = false) := Lib.hid (fun h => allOk_not (by rw [HL.out]; exact hlt) h)
          obtain ⟨S, hS⟩ : ∃ S, ss.getD m E0 = S := ⟨_, rfl⟩
          obtain ⟨S0, hS0⟩ : ∃ S, ss.getD 0 E0 = S := ⟨_, rfl⟩
          rw [hS] at hc1 HBS hbad HNX HNO
          rw [hS0] at hc0 hbad
          clear hS hS0
          subst ha0
          obtain ⟨β, hβ⟩ : ∃ β, isB S = β := ⟨_, rfl⟩
          rw [hβ] at HBS hbad
          clear hβ
          cases β with
          | false =>
            have HF := Lib.hid (HCV.out (HNO.out (by rw [hbad]; rfl)))
            clear hbad
            go_wp2_with fail
            go_quiet ((go_at_call 65; (with_reducible exact Calls.quiet_of_same (HBS.out _))))
            go_wp2
            go_ret2
            rw [HF.out.1, HF.out.2]
            exact retTx_no (bthen HQ.out (drewN_below _ _))
          | true =>
            by_cases hss : S.size = S0.size
            · have e1 : ((S.size : Int) != (S0.size : Int)) = false := by simp [hss]
              have HN := Lib.hid (HNX.out (by rw [hbad, hss]; simp))
              clear hbad hss
              go_wp2_with fail
              go_quiet ((go_at_call 65; (with_reducible exact Calls.quiet_of_same (HBS.out _))))
              go_wp2
              go_roundw
              case rel => exact ⟨m + 1, by omega, by go_num, HN, Lib.hid (bthen HQ.out (drewN_below _ _))⟩
              case measure => simp [intOf]; omega
            · have e1 : ((S.size : Int) != (S0.size : Int)) = true := by simp; omega
              have HF := Lib.hid (HCV.out (HNO.out (by rw [hbad]; simp [hss])))
              clear hbad hss
              go_wp2_with fail
              go_quiet ((go_at_call 65; (with_reducible exact Calls.quiet_of_same (HBS.out _))))
              go_wp2
              go_ret2
              rw [HF.out.1, HF.out.2]
              exact retTx_no (bthen HQ.out (drewN_below _ _))
        · obtain rfl : m = len := by omega
          have hA : allOk (n0S ss) ss = true := allOk_of (fun j hj => HA.out j (by rw [HL.out] at hj; exact hj))
          obtain ⟨rfl, hzz⟩ := HCO.out hA
          obtain ⟨T, hF⟩ := cbF (tb := tb) (a := a) HL.out hA
          have HF := Lib.hid hF
          rw [hF.nT] at hzz
          have hT0 := hF.T0
          have hT4 := hF.T4
          have HZ := Lib.hid hzz
          clear hF hzz hA
          obtain ⟨wa, hwa⟩ : ∃ wa : World, wa = wr := ⟨_, rfl⟩
          subst hwa
          have HG := Lib.hid (GrowAt.start wa 5)
          go_wp2
          go_loopw [8, 7] (fun i v wr => ∃ (t : Nat), t ≤ T ∧ i = .int .i64 (t : Nat) ∧ Hid (GrowAt wa wr 5 v t ((cbO tb ss t).map (Value.int .u8)))) (fun i _ _ => T - (intOf i).toNat)
          case atStart => exact ⟨0, Nat.zero_le _, rfl, HG⟩
          case round =>
            clear HG
            obtain ⟨t, htT, rfl, HG⟩ := hrel
            have hxw := HX.out.1.below (bthen HQ.out HG.out.2)
            have HXW := Lib.hid hxw
            by_cases hlt : t < T
            · have hl0 : 0 < m := by
                rcases Nat.eq_zero_or_pos m with h | h
                · have := hT0 h; omega
                · exact h
              have hl0i : (0:Int) < (m:Int) := by omega
              have ht0 : (0:Int) ≤ (t:Int) := by omega
              have hti : (t:Int) < (T:Int) := by omega
              obtain ⟨b0, off, S0, rfl, hc0, hs0⟩ := HF.out.cl wr hxw hl0
              clear hT0 hxw
              go_wp2
              go_loopw [10, 9] (fun i x w3 => ∃ (j X : Nat), j ≤ m ∧ i = .int .i64 (j : Nat) ∧ x = .int .i64 (X : Nat) ∧ Hid (cbX ss t j = X) ∧ w3 = wr) (fun i _ _ => m - (intOf i).toNat)
              case atStart => exact ⟨0, 0, Nat.zero_le _, rfl, rfl, Lib.hid rfl, rfl⟩
              case round =>
                obtain ⟨j, X, hj, rfl, rfl, HXj, rfl⟩ := hrel
                by_cases hltj : j < m
                · obtain ⟨b1, off1, ha1, hc1⟩ := HXW.out.at hltj
                  simp only [Option.some.injEq, Addr.mk.injEq] at ha1
                  obtain ⟨rfl, rfl, _⟩ := ha1
                  obtain ⟨S, hS, hSs, p0, e0⟩ := HF.out.byt t j hltj hlt
                  rw [hS] at hc1
                  have hj0 : (0:Int) ≤ (j:Int) := by omega
                  have hji : (j:Int) < (m:Int) := by omega
                  have hj7 : (j:Int) ≤ 6 := by omega
                  have hmS : (t:Int) < (S.size:Int) := by omega
                  have hlx := HF.out.lt t j
                  have hst := HF.out.xs t j
                  rw [HXj.out] at hlx hst
                  obtain ⟨P, hP, hpw2, hor, hor1⟩ := cb_pre X j (by clear hst hS hc1 e0; omega) hlx
                  rw [hP] at hst
                  obtain ⟨β, hβ⟩ : ∃ β, cbB ss t j = β := ⟨_, rfl⟩
                  rw [hβ] at e0 hst
                  obtain ⟨cb, hcb⟩ : ∃ cb : Int, (((S[t]'p0).toNat : Nat) : Int) = cb := ⟨_, rfl⟩
                  rw [hcb] at e0
                  have HST := Lib.hid hst
                  clear hst hlx hP hβ hS hSs hs0 hc0
                  cases β
                  · simp only [Bool.false_eq_true, if_false] at e0
                    subst e0
                    go_wp2
                    go_roundw
                    case rel => exact ⟨j + 1, X, by omega, by go_num, rfl, Lib.hid (by rw [HST.out]; simp), trivial⟩
                    case measure => simp [intOf]; omega
                  · simp only [if_true] at e0
                    subst e0
                    go_wp2
                    go_roundw
                    case rel => exact ⟨j + 1, X ||| P, by omega, by go_num, rfl, Lib.hid (by rw [HST.out]; simp), trivial⟩
                    case measure => simp [intOf]; omega
                · obtain rfl : j = m := by omega
                  have hlx := HF.out.lt t j
                  rw [HXj.out, ← HK.out] at hlx
                  have hX0 : (0:Int) ≤ (X:Int) := by omega
                  have hXi : (X:Int) < (tb.size:Int) := by omega
                  have hg := is49 tb X hlx
                  obtain ⟨y, hy⟩ : ∃ y, byI tb X = y := ⟨_, rfl⟩
                  rw [hy] at hg
                  have hst := HF.out.suc t
                  rw [HL.out, HXj.out, hy] at hst
                  have HST := Lib.hid hst
                  have hsz := HG.out.2.size
                  have HG1 := Lib.hid (HG.out.alloc (.cells #[.int .u8 y] 5))
                  clear hst hy hc0 hs0
                  go_wp2_with (at_builtin; refine wpList_ap1 rfl (.tmp 78) (.tmp 82) 37 rfl wa.heap.size 5 (.int .u8 0) 1 Tryd.underlying37 Tryd.infoB9 rfl _ t _ rfl HG1.out.1 wr.heap.size (.int .u8 y) rfl (by go_simp) rfl (by omega) (by omega) HG1.out.2.size ?_)
                  intro v' w6 hown hgrow _
                  have HG2 := Lib.hid (show GrowAt wa w6 5 v' (t + 1) ((cbO tb ss (t + 1)).map (Value.int .u8)) by rw [HST.out]; exact HG.out.bytes hown hgrow)
                  clear hown hgrow
                  go_wp2
                  go_roundw
                  case rel => exact ⟨t + 1, by omega, by go_num, HG2⟩
                  case measure => simp [intOf]; omega
            · obtain rfl : t = T := by omega
              have hcb := conv_own (P := Tryd.prog) 37 9 Tryd.underlying37 Tryd.underlying5 Tryd.underlying9 HG.out.1
              rcases Nat.eq_zero_or_pos m with hl0 | hl0
              · obtain rfl : t = 0 := hT0 hl0
                subst hl0
                clear hT0
                go_wp2
                go_ret2
                exact ⟨by rw [HZ.out]; rfl, bthen HQ.out HG.out.2⟩
              · have hl0i : (0:Int) < (m:Int) := by omega
                obtain ⟨b0, off, S0, rfl, hc0, hs0⟩ := HF.out.cl wr hxw hl0
                clear hT0
                go_wp2
                go_ret2
                exact ⟨by rw [HZ.out]; rfl, bthen HQ.out HG.out.2⟩
    · have ho : cbOk tb ss = false := by
        unfold cbOk
        rw [hT, decide_eq_false (by rw [hinp]; omega)]
        rfl
      rw [show cbV tb ss = [] by unfold cbV; rw [ho]; rfl, ho]
      have HT := Lib.hid hT
      have hne : ((len : Int) != (k : Int)) = true := by simp; omega
      clear hT ho hx hz hk hinp hlk hl hsz hB
      go_enter Tryd.func22, Tryd.ntmps22
      go_wp2_with fail
      refine (l04Table_any tb _ ht).mono ?_
      rintro e w1 ⟨rfl, rfl⟩
      rw [HT.out]
      go_wp2_with fail
      refine (HI.out _).mono ?_
      rintro e w1 ⟨rfl, rfl⟩
      go_wp2_with fail
      go_ret2
      exact retTx_no (Below.refl _ _)
theorem toStringS_is (a : Option Addr) (len cap : Nat) (ss : List ByteArray) (w : World) (hb : len ≤ 1048576) (hx : IsStrs w a len ss) :
    Calls Tryd.prog 23 #[.slice a len cap] w fun e w' => ∃ g c, e = .returned (.slice (some ⟨g, 0, none⟩) len c) ∧ Hid (IsStrs w' (some ⟨g, 0, none⟩) len ss) ∧ Below w.heap.size w w' := by
  refine (toStringS_any a len cap ss w hb hx).mono ?_
  rintro e w' ⟨g, c, rfl, hO⟩
  have hl : (strV ss).length = len := by unfold strV; rw [List.length_map, hx.1]
  have hI := IsStrs.of_row hO
  rw [hx.1] at hI
  exact ⟨g, c, by rw [hl], Lib.hid hI, hO.2⟩
set_option maxHeartbeats 1600000 in
theorem fnExactCombineBits_walk (tb : ByteArray) (a : Option Addr) (len cap : Nat) (ss : List ByteArray) (w : World) (ht : tb.size ≤ maxLen) (hb : len ≤ maxLen) (hz : ∀ j, (ss.getD j E0).size ≤ maxLen) (hx : IsStrs w a len ss) :
    Calls Tryd.prog 5 #[.string tb, .slice a len cap] w fun e w' => e = .returned (.bool true) ∧ Below w.heap.size w w' := by
  by_cases hbig : 1048576 < tb.size
  · have : (1048576 : Int) < (tb.size : Int) := by omega
    go_enter Tryd.func5, Tryd.ntmps5
    go_wp2
    go_ret
    exact ⟨rfl, Below.refl _ _⟩
  · have h0 : ¬ (1048576 : Int) < (tb.size : Int) := by omega
    have HSZ := Lib.hid (szStringS_any a len cap ss w hb hz hx)
    have HX := Lib.hid hx
    have HI := Lib.hid (fun (a : Option Addr) (cap : Nat) (w : World) (h : len ≤ 1048576) (hx : IsStrs w a len ss) => combineBits_any tb a len cap ss w ht h hz hx)
    have HS := Lib.hid (fun (a : Option Addr) (cap : Nat) (w : World) (h : len ≤ 1048576) (hx : IsStrs w a len ss) => specCombineBits_any tb a len cap ss w ht h hz hx)
    unfold RetTx at HI HS
    obtain ⟨d, hd⟩ : ∃ d, cbOk tb ss = d := ⟨_, rfl⟩
    obtain ⟨t, hz'⟩ : ∃ t, strOfNums (cbV tb ss) = t := ⟨_, rfl⟩
    rw [hd, hz'] at HI HS
    clear hd hz' hbig hz hx
    go_enter Tryd.func5, Tryd.ntmps5
    go_wp2_with fail
    refine HSZ.out.mono ?_
    rintro e w1 ⟨z, rfl, HZ, rfl⟩
    by_cases hneg : z < 0
    · go_wp2
      go_ret
      exact ⟨rfl, Below.refl _ _⟩
    · obtain ⟨hlen, _⟩ := HZ.out (by omega)
      go_wp2_with fail
      refine (toStringS_is a len cap ss _ hlen HX.out).mono ?_
      rintro e w1 ⟨g1, c1, rfl, HX1, hb1⟩
      have HB1 := Lib.hid hb1
      clear hb1
      go_wp2_with fail
      refine (HS.out _ c1 w1 hlen HX1.out).mono ?_
      rintro e w2 ⟨rfl, hb2⟩
      have HB2 := Lib.hid (bthen HB1.out hb2)
      clear hb2
      have HX2 := Lib.hid (HX.out.below HB2.out)
      go_wp2_with fail
      refine (toStringS_is a len cap ss _ hlen HX2.out).mono ?_
      rintro e w3 ⟨g3, c3, rfl, HX3, hb3⟩
      have HB3 := Lib.hid (bthen HB2.out hb3)
      clear hb3
      go_wp2_with fail
      refine (HI.out _ c3 w3 hlen HX3.out).mono ?_
      rintro e w4 ⟨rfl, hb4⟩
      have HB4 := Lib.hid (bthen HB3.out hb4)
      have HX4 := Lib.hid (HX.out.below HB4.out)
      have HX5 := Lib.hid (HX3.out.below hb4)
      clear hb4
      go_wp2_with fail
      refine (toStringS_is a len cap ss _ hlen HX4.out).mono ?_
      rintro e w5 ⟨g5, c5, rfl, HX6, hb5⟩
      have HB5 := Lib.hid (bthen HB4.out hb5)
      have HX7 := Lib.hid (HX5.out.below hb5)
      clear hb5
      go_wp2_with fail
      refine (eqStringS_any _ _ len c3 c5 ss w5 (by omega) HX7.out HX6.out).mono ?_
      rintro e w6 ⟨rfl, hb6⟩
      have HB6 := Lib.hid (bthen HB5.out hb6)
      clear hb6
      go_wp2_with fail
      go_ret
      exact ⟨rfl, HB6.out⟩
end Go.Proofs.YtflgooogiceliaaDoor

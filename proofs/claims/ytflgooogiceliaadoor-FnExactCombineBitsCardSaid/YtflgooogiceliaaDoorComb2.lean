import Derived.Test.YtflgooogiceliaaDoorComb
/- Bits of several streams combined by a table: the program's walk. Condition: the texts are shorter than the model's greatest length. -/
namespace Go.Proofs.YtflgooogiceliaaDoor
open Go.RowKit
set_option linter.unusedVariables false

theorem cb_pre (X j : Nat) (hj : j < 7) (hX : X < 2 ^ j) : ∃ P : Nat, 2 ^ j = P ∧ wrap64 ((2 : Int) ^ j) = (P : Int) ∧ bits .or .i64 (X : Int) (P : Int) = ((X ||| P : Nat) : Int) ∧ bits .or .i64 (X : Int) 0 = (X : Int) := by
  have h64 : ∀ j, j < 7 → 2 ^ j ≤ 64 := by decide
  have h1 := h64 j hj
  have hcast : ((2 ^ j : Nat) : Int) = (2 : Int) ^ j := by simp
  have hor0 := or_i64 X 0 (by omega) (by omega)
  rw [Nat.or_zero] at hor0
  exact ⟨2 ^ j, rfl, by rw [pow_wrap j (by omega)]; exact hcast.symm, or_i64 X (2 ^ j) (by omega) (by omega), hor0⟩
set_option maxRecDepth 100000 in
set_option maxHeartbeats 1000000 in
theorem combineBits_any (tb : ByteArray) (a : Option Addr) (len cap : Nat) (ss : List ByteArray) (w : World) (ht : tb.size ≤ maxLen) (hb : len ≤ 1048576) (hz : ∀ j, (ss.getD j E0).size ≤ maxLen) (hx : IsStrs w a len ss) :
    Calls Tryd.prog 24 #[.string tb, .slice a len cap] w (RetTx w (cbOk tb ss) (cbV tb ss)) := by
  have hbw : Below w.heap.size w (w.alloc (.cells #[.slice a len cap] 30)) := (Below.refl _ w).alloc (Nat.le_refl _) _
  cases hT : isT tb with
  | false =>
    have ho : cbOk tb ss = false := by unfold cbOk; rw [hT]; rfl
    rw [show cbV tb ss = [] by unfold cbV; rw [ho]; rfl, ho]
    have HT := Lib.hid hT
    have Hw := Lib.hid hbw
    clear hT ho hbw
    go_enter Tryd.func24, Tryd.ntmps24
    go_wp2_with fail
    refine (isTable_any tb _ ht).mono ?_
    rintro e w1 ⟨rfl, hb1⟩
    rw [HT.out]
    have Hb := Lib.hid (bthen Hw.out hb1)
    clear hb1
    go_wp2_with fail
    go_ret2
    exact retTx_no Hb.out
  | true =>
    obtain ⟨k, hk, hk7, hsz, hB⟩ := isT_iff hT
    have hinp : inpI tb = (k : Int) := by unfold inpI; rw [hk]
    have HI := Lib.hid (fun w => inputs_any tb k w hk7 hsz)
    by_cases hlk : len = k
    · cases hA : allOk (n0S ss) ss with
      | false =>
        have ho : cbOk tb ss = false := by unfold cbOk; rw [hT, hA]; simp
        rw [show cbV tb ss = [] by unfold cbV; rw [ho]; rfl, ho]
        have HT := Lib.hid (And.intro hT hA)
        have HX := Lib.hid (And.intro hx hz)
        have hne : ((len : Int) != (k : Int)) = false := by simp [hlk]
        have Hw := Lib.hid hbw
        clear hT hA ho hx hz hk hinp hlk hbw
        go_enter Tryd.func24, Tryd.ntmps24
        go_wp2_with fail
        refine (isTable_any tb _ ht).mono ?_
        rintro e w1 ⟨rfl, hb1⟩
        rw [HT.out.1]
        have hlt : w.heap.size < (w.alloc (.cells #[.slice a len cap] 30)).heap.size := by simp
        have q0 : w1.cell? ⟨w.heap.size, 0, none⟩ = some (.slice a len cap) := (hb1.cell (p := ⟨w.heap.size, 0, none⟩) hlt).trans (by go_simp)
        have Hb := Lib.hid (bthen Hw.out hb1)
        clear hb1 hlt
        go_wp2_with fail
        refine (lengthS_any _ _ _ _).mono ?_
        rintro e w2 ⟨rfl, rfl⟩
        go_wp2_with fail
        refine (HI.out _).mono ?_
        rintro e w2 ⟨rfl, rfl⟩
        have HC := Lib.hid (containsFuncS_any w.heap.size a len cap ss w1 (by omega) HX.out.2 q0 (HX.out.1.below Hb.out))
        rw [HT.out.2] at HC
        go_wp2_with fail
        refine HC.out.mono ?_
        rintro e w3 ⟨rfl, hb3⟩
        have Hb3 := Lib.hid (bthen Hb.out hb3)
        clear hb3
        go_wp2_with fail
        go_ret2
        exact retTx_no Hb3.out
      | true =>
        have hl := hx.1
        have ho : cbOk tb ss = true := by unfold cbOk; rw [hT, hA, decide_eq_true (by rw [hinp]; omega)]; rfl
        rw [show cbV tb ss = cbO tb ss (n0S ss) by unfold cbV; rw [ho]; rfl, ho]
        have HT := Lib.hid (And.intro hT hA)
        have HX := Lib.hid (And.intro hx hz)
        have hne : ((len : Int) != (k : Int)) = false := by simp [hlk]
        have hsu := cbO_succ tb ss
        have hlen := cbO_len tb ss
        have hok := cbO_ok tb ss
        have hby := fun (n t j : Nat) (h : allOk n ss = true) (hj : j < ss.length) (ht : t < n) => cbB_byte h hj ht
        have hlt := cbX_lt ss
        have hxs : ∀ t m, cbX ss t (m + 1) = cbX ss t m ||| (if cbB ss t m then 2 ^ m else 0) := fun t m => rfl
        have hT0 : len = 0 → n0S ss = 0 := fun h0 => by
          unfold n0S
          have : ss = [] := List.eq_nil_of_length_eq_zero (by omega)
          subst this; rfl
        have h4 : 0 < ss.length → n0S ss ≤ 400 := fun h => by
          obtain ⟨h1, h2⟩ := allOk_at hA h
          have := isB_size h1
          unfold n0S at *; omega
        have hT4 : n0S ss ≤ 400 := by
          rcases Nat.eq_zero_or_pos ss.length with h | h
          · rw [hT0 (by omega)]; omega
          · exact h4 h
        obtain ⟨T, hTe⟩ : ∃ T, n0S ss = T := ⟨_, rfl⟩
        rw [hTe] at hT0 hT4 ⊢
        have hcl : ∀ (w' : World), IsStrs w' a len ss → 0 < len → ∃ (b0 off : Nat) (S0 : ByteArray), a = some ⟨b0, off, none⟩ ∧ w'.cell? ⟨b0, off, none⟩ = some (.string S0) ∧ S0.size = T := fun w' h h0 => by
          obtain ⟨b0, off, ha, hc⟩ := h.at h0
          exact ⟨b0, off, _, ha, by simpa using hc, hTe⟩
        have hbyT := fun (t j : Nat) (hj : j < len) (ht : t < T) => hby T t j (by rw [← hTe]; exact hA) (by rw [hl]; exact hj) ht
        have HH := Lib.hid (And.intro hsu (And.intro hlen (And.intro hok (And.intro hbyT (And.intro hlt (And.intro hxs (And.intro hcl hTe)))))))
        have HL := Lib.hid (show ss.length = len from hl)
        have HK := Lib.hid (show tb.size = 2 ^ len by rw [hlk]; exact hsz)
        have HBt := Lib.hid hB
        have hl7 : len < 7 := by omega
        have Hw := Lib.hid hbw
        have HBox : Hid (OwnAt w (w.alloc (.cells #[.slice a len cap] 30)) [(w.heap.size, boxO 30 (.slice a len cap))]) := Lib.hid ((OwnAt.start w).new rfl)
        clear hT hA ho hx hz hk hinp hlk hbw hsu hlen hok hby hbyT hlt hxs hcl hTe hl hsz hB h4
        obtain ⟨bx, hbx⟩ : ∃ bx, w.heap.size = bx := ⟨_, rfl⟩
        rw [hbx] at HBox
        have HBX := Lib.hid hbx
        go_enter Tryd.func24, Tryd.ntmps24
        go_wp2_with fail
        refine (isTable_any tb _ ht).mono ?_
        rintro e w1 ⟨rfl, hb1⟩
        rw [HT.out.1]
        have HB1 := Lib.hid (HBox.out.ret hb1)
        have q0 : w1.cell? ⟨bx, 0, none⟩ = some (.slice a len cap) := (HB1.out.1.boxAt 0 rfl).1
        clear hb1 HBox hbx
        go_wp2_with fail
        refine (lengthS_any _ _ _ _).mono ?_
        rintro e w2 ⟨rfl, rfl⟩
        go_wp2_with fail
        refine (HI.out _).mono ?_
        rintro e w2 ⟨rfl, rfl⟩
        have HC := Lib.hid (containsFuncS_any bx a len cap ss w1 (by omega) HX.out.2 q0 (HX.out.1.below HB1.out.2))
        rw [HT.out.2] at HC
        go_wp2_with fail
        refine HC.out.mono ?_
        rintro e w3 ⟨rfl, hb3⟩
        have HD := Lib.hid (Bd.start (HB1.out.ret hb3))
        obtain ⟨bb, hbb⟩ : ∃ bb, w3.heap.size = bb := ⟨_, rfl⟩
        rw [hbb] at HD
        have HBB := Lib.hid hbb
        clear hb3 q0 hbb HC HB1
        go_wp2
        rw [HBB.out]
        go_loopw [7] (fun i wr => ∃ m : Nat, m ≤ T ∧ i = .int .i64 (m : Nat) ∧ Hid (Bd w wr bb (cbO tb ss m) [(bx, boxO 30 (.slice a len cap))])) (fun i _ => T - (intOf i).toNat)
        case atStart => exact ⟨0, Nat.zero_le _, rfl, HD⟩
        case round =>
          clear HD
          obtain ⟨m, hm, rfl, HD⟩ := hrel
          have q0 := HD.out.box
          by_cases hlt : m < T
          · have hl0 : 0 < len := by
              rcases Nat.eq_zero_or_pos len with h | h
              · have := hT0 h; omega
              · exact h
            have hl0i : (0:Int) < (len:Int) := by omega
            have hm0 : (0:Int) ≤ (m:Int) := by omega
            have hmi : (m:Int) < (T:Int) := by omega
            obtain ⟨b0, off, S0, rfl, hc0, hs0⟩ := HH.out.2.2.2.2.2.2.1 wr (HX.out.1.below HD.out.below) hl0
            obtain ⟨wo, rfl⟩ : ∃ wo : World, wo = wr := ⟨_, rfl⟩
            clear hT0
            go_wp2
            go_loopw [39, 8] (fun i x wr => ∃ (j X : Nat), j ≤ len ∧ i = .int .i64 (j : Nat) ∧ x = .int .i64 (X : Nat) ∧ Hid (cbX ss m j = X) ∧ wr = wo) (fun i _ _ => len - (intOf i).toNat)
            case atStart => exact ⟨0, 0, Nat.zero_le _, rfl, rfl, Lib.hid rfl, rfl⟩
            case round =>
              obtain ⟨j, X, hj, rfl, rfl, HXj, rfl⟩ := hrel
              by_cases hltj : j < len
              · obtain ⟨b1, off1, ha1, hc1⟩ := (HX.out.1.below HD.out.below).at hltj
                simp only [Option.some.injEq, Addr.mk.injEq] at ha1
                obtain ⟨rfl, rfl, _⟩ := ha1
                obtain ⟨S, hS, hSs, p0, e0⟩ := HH.out.2.2.2.1 m j hltj hlt
                rw [hS] at hc1
                have hj0 : (0:Int) ≤ (j:Int) := by omega
                have hji : (j:Int) < (len:Int) := by omega
                have hj7 : (j:Int) ≤ 6 := by omega
                have hmS : (m:Int) < (S.size:Int) := by omega
                have hlx := HH.out.2.2.2.2.1 m j
                have hst := HH.out.2.2.2.2.2.1 m j
                rw [HXj.out] at hlx hst
                obtain ⟨P, hP, hpw2, hor, hor1⟩ := cb_pre X j (by clear hst hS hc1 e0; omega) hlx
                rw [hP] at hst
                obtain ⟨β, hβ⟩ : ∃ β, cbB ss m j = β := ⟨_, rfl⟩
                rw [hβ] at e0 hst
                obtain ⟨cb, hcb⟩ : ∃ cb : Int, (((S[m]'p0).toNat : Nat) : Int) = cb := ⟨_, rfl⟩
                rw [hcb] at e0
                have HST := Lib.hid hst
                clear hst hlx hP hβ hS hSs hs0 hc0 hm0
                have hm0 : (0:Int) ≤ (m:Int) := by omega
                cases β
                · simp only [Bool.false_eq_true, if_false] at e0
                  subst e0
                  go_wp2
                  go_roundw
                  case rel => exact ⟨j + 1, X, by omega, by go_num, rfl, Lib.hid (by rw [HST.out]; simp), trivial⟩
                  case measure => simp [intOf]; omega
                · simp only [if_true] at e0
                  subst e0
                  go_wp2
                  go_roundw
                  case rel => exact ⟨j + 1, X ||| P, by omega, by go_num, rfl, Lib.hid (by rw [HST.out]; simp), trivial⟩
                  case measure => simp [intOf]; omega
              · obtain rfl : j = len := by omega
                have hlx := HH.out.2.2.2.2.1 m j
                rw [HXj.out, ← HK.out] at hlx
                have hX0 : (0:Int) ≤ (X:Int) := by omega
                have hXi : (X:Int) < (tb.size:Int) := by omega
                have hg := is49 tb X hlx
                obtain ⟨y, hy⟩ : ∃ y, byI tb X = y := ⟨_, rfl⟩
                rw [hy] at hg
                have hst := HH.out.1 m
                rw [HL.out, HXj.out, hy] at hst
                have HST := Lib.hid hst
                have hln := HH.out.2.1 m
                have HW := Lib.hid (writeByte_any bb (cbO tb ss m) _ y w wr HD.out (by omega))
                clear hst hy hln q0
                go_wp2_with fail
                refine HW.out.mono ?_
                rintro e w5 ⟨rfl, hd5⟩
                have HN : Hid (Bd w w5 bb (cbO tb ss (m + 1)) [(bx, boxO 30 (.slice (some ⟨b0, off, none⟩) j cap))]) := Lib.hid (by rw [HST.out]; exact hd5)
                clear hd5
                go_wp2
                go_roundw
                case rel => exact ⟨m + 1, by omega, by go_num, HN⟩
                case measure => simp [intOf]; omega
          · obtain rfl : m = T := by omega
            have hln := HH.out.2.1 m
            have HTx := Lib.hid (builderText_any bb (cbO tb ss m) _ w wr HD.out (HH.out.2.2.1 m) (by omega))
            rcases Nat.eq_zero_or_pos len with hl0 | hl0
            · obtain rfl : m = 0 := hT0 hl0
              subst hl0
              clear hT0
              go_wp2_with fail
              refine HTx.out.mono ?_
              rintro e w5 ⟨rfl, hO⟩
              have HO := Lib.hid hO
              clear hO
              go_wp2
              go_ret2
              exact ⟨rfl, HO.out.2⟩
            · have hl0i : (0:Int) < (len:Int) := by omega
              obtain ⟨b0, off, S0, rfl, hc0, hs0⟩ := HH.out.2.2.2.2.2.2.1 wr (HX.out.1.below HD.out.below) hl0
              clear hT0
              go_wp2_with fail
              refine HTx.out.mono ?_
              rintro e w5 ⟨rfl, hO⟩
              have HO := Lib.hid hO
              clear hO
              go_wp2
              go_ret2
              exact ⟨rfl, HO.out.2⟩
    · have ho : cbOk tb ss = false := by
        have hl := hx.1
        unfold cbOk
        rw [hT, decide_eq_false (by rw [hinp]; omega)]
        rfl
      rw [show cbV tb ss = [] by unfold cbV; rw [ho]; rfl, ho]
      have HT := Lib.hid hT
      have hne : ((len : Int) != (k : Int)) = true := by simp; omega
      have Hw := Lib.hid hbw
      clear hT ho hx hz hk hinp hlk hbw
      go_enter Tryd.func24, Tryd.ntmps24
      go_wp2_with fail
      refine (isTable_any tb _ ht).mono ?_
      rintro e w1 ⟨rfl, hb1⟩
      rw [HT.out]
      have hlt : w.heap.size < (w.alloc (.cells #[.slice a len cap] 30)).heap.size := by simp
      have q0 : w1.cell? ⟨w.heap.size, 0, none⟩ = some (.slice a len cap) := (hb1.cell (p := ⟨w.heap.size, 0, none⟩) hlt).trans (by go_simp)
      have Hb := Lib.hid (bthen Hw.out hb1)
      clear hb1 hlt
      go_wp2_with fail
      refine (lengthS_any _ _ _ _).mono ?_
      rintro e w2 ⟨rfl, rfl⟩
      go_wp2_with fail
      refine (HI.out _).mono ?_
      rintro e w2 ⟨rfl, rfl⟩
      go_wp2_with fail
      go_ret2
      exact retTx_no Hb.out
end Go.Proofs.YtflgooogiceliaaDoor

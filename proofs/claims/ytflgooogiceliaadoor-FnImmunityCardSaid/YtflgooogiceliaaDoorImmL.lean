import Derived.Test.YtflgooogiceliaaDoorParse
/- The law FnImmunity: what the immunity tells of the spectrum and of parts of the table. Condition: the arguments are few bytes (else the law returns true at once). -/
namespace Go.Proofs.YtflgooogiceliaaDoor
open Go.RowKit
set_option linter.unusedVariables false

/-- The facts on a table that the law asks: L its spectrum, K its immunity. -/
structure ImmF (s : ByteArray) (L : List Int) (k K : Nat) : Prop where
  len : L.length = s.size
  le : K ≤ k
  zero : ∀ a, 0 < a → a < s.size → pop6 a ≤ K → L.getD a 0 = 0
  some : K < k → smF L (K + 1) s.size = true
  part : ∀ mask v, mask < s.size → pop6 mask ≤ K → v < s.size → inF (bitF s) (mask) (v &&& mask) s.size * 2 ^ pop6 mask = onF (bitF s) s.size
theorem immF {s : ByteArray} {k : Nat} (hk : k < 5) (hs : s.size = 2 ^ k) (hb : isB s = true) : ∃ K : Nat, imV s = (K : Int) ∧ ImmF s (spS' s) k K := by
  have h16 : ∀ k, k < 5 → 2 ^ k ≤ 16 := by decide
  have hn := h16 k hk
  have hi := (isT_size (by omega) hs hb).2
  have hpos := imF_pos (L := spS' s) (b0 := k + 1) (by omega) s.size (by omega)
  have hle := imF_le (spS' s) (k + 1) s.size
  have hv : imV s = ((imF (spS' s) (k + 1) s.size - 1 : Nat) : Int) := by
    unfold imV
    rw [inpI_some hi]
    have e : ((k : Int).toNat + 1) = k + 1 := by simp
    rw [e]
    omega
  refine ⟨imF (spS' s) (k + 1) s.size - 1, hv, ⟨spS'_len s, by omega, ?_, ?_, ?_⟩⟩
  · intro a h0 h1 h2
    by_cases hz : (spS' s).getD a 0 = 0
    · exact hz
    · have := imF_lb (spS' s) (k + 1) s.size a h0 h1 hz
      omega
  · intro h
    obtain ⟨a, h0, h1, h2, h3⟩ := imF_hit (spS' s) (k + 1) s.size (by omega)
    exact smF_of _ _ _ a h0 h1 h2 (by omega)
  · intro mask v hm hp hv
    have hz : ∀ a, a < 2 ^ k → a ≠ 0 → (a &&& mask == a) = true → csum (spS a) (fun x => sgV (bitF s x)) (2 ^ k) = 0 := by
      intro a ha h0 hsub
      have h4 := pop6_sub a (by omega) mask (by omega) hsub
      by_cases hzz : (spS' s).getD a 0 = 0
      · rw [spS'_at (by omega), hs] at hzz
        exact hzz
      · have := imF_lb (spS' s) (k + 1) s.size a (by omega) (by omega) hzz
        omega
    have := immune_count (bitF s) hk (by omega) (v := v &&& mask) (Nat.and_lt_two_pow _ (by omega)) (by rw [Nat.and_assoc, Nat.and_self]) hz
    rw [hs]
    exact this
set_option maxRecDepth 100000 in
set_option maxHeartbeats 6400000 in
theorem fnImmunity_walk (a a' : Option Addr) (len cap len' cap' : Nat) (bs bs' : List Int) (w : World) (hx : IsU8s w a len bs) (hx' : IsU8s w a' len' bs') :
    Calls Tryd.prog 7 #[.slice a len cap, .slice a' len' cap'] w fun e w' => e = .returned (.bool true) ∧ Below w.heap.size w w' := by
  cases hlong : (decide (48 < len) || decide (48 < len')) with
  | true =>
    go_enter Tryd.func7, Tryd.ntmps7
    go_wp2_with fail
    refine (r8Long_any _ _ _ _ _ _ _).mono ?_
    rintro e w' ⟨rfl, rfl⟩
    rw [hlong]
    go_wp2_with fail
    go_ret
    exact ⟨rfl, Below.refl _ _⟩
  | false =>
    have hlens : len ≤ 48 ∧ len' ≤ 48 := by simpa using hlong
    have HX := Lib.hid hx
    have HX' := Lib.hid hx'
    clear hx hx'
    go_enter Tryd.func7, Tryd.ntmps7
    go_wp2_with fail
    refine (r8Long_any _ _ _ _ _ _ _).mono ?_
    rintro e w' ⟨rfl, rfl⟩
    rw [hlong]
    clear hlong
    go_wp2_with fail
    refine (r8Table_any _ _ _ bs w HX.out (by omega)).mono ?_
    rintro e w1 ⟨s, k, rfl, HT⟩
    obtain ⟨hk4, hsz, hB, hbw1⟩ := HT.out
    obtain ⟨hT, hI⟩ := isT_size (by omega) hsz hB
    obtain ⟨K, hK, hP⟩ := immF (by omega) hsz hB
    have h16 : ∀ k, k ≤ 4 → 2 ^ k ≤ 16 := by decide
    have h64 : s.size ≤ 16 := by rw [hsz]; exact h16 k hk4
    have hn1 : 1 ≤ s.size := by rw [hsz]; exact Nat.one_le_two_pow
    have hml : s.size ≤ maxLen := by unfold maxLen; omega
    have hbit : ∀ x, x < s.size → ((by8 s x).toNat : Int) = 48 + (if bitF s x then 1 else 0) := fun x hx => isB_byte hB hx
    have HS := Lib.hid (fun w => spectrumOf_any s w hml)
    have HIn := Lib.hid (fun w => inputsOf_any s w hml)
    have HIm := Lib.hid (fun w => immunityOf_any s w hml)
    have hiv : inpV s = (k : Int) := by unfold inpV; rw [hT, inpI_some hI]; rfl
    unfold RetI at HIn
    rw [hT, tabL_yes hT] at HS
    rw [hT, hiv] at HIn
    rw [hT, tabV_yes hT, hK] at HIm
    obtain ⟨L, hL⟩ : ∃ L, spS' s = L := ⟨_, rfl⟩
    rw [hL] at HS hP
    obtain ⟨f, hf⟩ : ∃ f, bitF s = f := ⟨_, rfl⟩
    have hpart := hP.part
    rw [hf] at hpart hbit
    have HP := Lib.hid hP
    have HPart := Lib.hid hpart
    have HB := Lib.hid hbit
    have Hb1 := Lib.hid hbw1
    have hKk := hP.le
    clear hB hT hI hL hf hpart hbit hP hbw1 hsz HT hiv h16 hK
    go_wp2_with fail
    refine (HIn.out _).mono ?_
    rintro e w2 ⟨rfl, hb2⟩
    have Hb2 := Lib.hid (bthen Hb1.out hb2)
    clear hb2 Hb1
    go_wp2_with fail
    refine (HIm.out _).mono ?_
    rintro e w3 ⟨rfl, hb3⟩
    have Hb3 := Lib.hid (bthen Hb2.out hb3)
    clear hb3 Hb2
    go_wp2_with fail
    refine (HS.out _).mono ?_
    rintro e w4 ⟨g, c, rfl, hl, hb4⟩
    rw [HP.out.len] at hl ⊢
    have HL := Lib.hid (hl.at 0 rfl)
    have Hb4 := Lib.hid (bthen Hb3.out hb4)
    clear hl hb4 Hb3 HIn HIm HS
    have hk0 : (0:Int) ≤ (k:Int) := by omega
    have hK0 : (0:Int) ≤ (K:Int) := by omega
    have hKki : (K:Int) ≤ (k:Int) := by omega
    have hd1 : decide ((K:Int) < 0) = false := decide_eq_false (by omega)
    have hd2 : decide (k < K) = false := decide_eq_false (by omega)
    go_wp2
    go_loopw [13, 12] (fun i v wr => ∃ (m : Nat) (b : Bool), 1 ≤ m ∧ m ≤ s.size ∧ i = .int .i64 (m : Nat) ∧ v = .bool b ∧ Hid (smF L (K + 1) m = b) ∧ wr = w4) (fun i _ _ => s.size - (intOf i).toNat)
    case atStart => exact ⟨1, false, Nat.le_refl _, hn1, rfl, rfl, Lib.hid (by simp [smF]), rfl⟩
    case round =>
      obtain ⟨m, b, hm1, hm, rfl, rfl, HF, rfl⟩ := hrel
      by_cases hlt : m < s.size
      · obtain ⟨b2, off2, rfl, hcm⟩ := HL.out.at hlt
        have hm0 : (0:Int) ≤ (m:Int) := by omega
        have hmi : (m:Int) < (s.size:Int) := by omega
        have hst : smF L (K + 1) (m + 1) = (smF L (K + 1) m || (decide (0 < m) && (pop6 m == K + 1 && !decide (L.getD m 0 = 0)))) := rfl
        have hz := HP.out.zero m (by omega) hlt
        rw [HF.out, decide_eq_true (show 0 < m by omega), Bool.true_and] at hst
        have HW := Lib.hid (fun w => r8Weight_any m w (by omega))
        obtain ⟨p, hp⟩ : ∃ p, pop6 m = p := ⟨_, rfl⟩
        obtain ⟨z, hzz⟩ : ∃ z, L.getD m 0 = z := ⟨_, rfl⟩
        rw [hp] at hst hz HW
        rw [hzz] at hst hz hcm
        have HST := Lib.hid hst
        clear hp hzz hst
        by_cases hpK : p ≤ K
        · obtain rfl := hz hpK
          have hpi : (p : Int) ≤ (K : Int) := by omega
          have hpe : ((p : Int) == (K : Int) + 1) = false := by rw [beq_eq_false_iff_ne]; omega
          cases b
          · have HN := Lib.hid (show smF L (K + 1) (m + 1) = false by rw [HST.out]; simp)
            clear hz
            go_wp2_with (first | (go_at_call 36; refine (HW.out _).mono ?_; rintro e w' ⟨rfl, rfl⟩))
            go_roundw
            case rel => exact ⟨m + 1, false, by omega, by omega, by go_num, rfl, HN, trivial⟩
            case measure => simp [intOf]; omega
          · have HN := Lib.hid (show smF L (K + 1) (m + 1) = true by rw [HST.out]; simp)
            clear hz
            go_wp2_with (first | (go_at_call 36; refine (HW.out _).mono ?_; rintro e w' ⟨rfl, rfl⟩))
            go_roundw
            case rel => exact ⟨m + 1, true, by omega, by omega, by go_num, rfl, HN, trivial⟩
            case measure => simp [intOf]; omega
        · have hpi : ¬ (p : Int) ≤ (K : Int) := by omega
          clear hz
          cases b
          · by_cases hpe : p = K + 1
            · have hpe2 : ((p : Int) == (K : Int) + 1) = true := by rw [beq_iff_eq]; omega
              have hpe3 : (p : Int) = (K : Int) + 1 := by omega
              by_cases hz : z = 0
              · have HN := Lib.hid (show smF L (K + 1) (m + 1) = false by rw [HST.out, hz]; simp)
                subst hz
                clear hpe hpe3
                go_wp2_with (first | (go_at_call 36; refine (HW.out _).mono ?_; rintro e w' ⟨rfl, rfl⟩))
                go_roundw
                case rel => exact ⟨m + 1, false, by omega, by omega, by go_num, rfl, HN, trivial⟩
                case measure => simp [intOf]; omega
              · have HN := Lib.hid (show smF L (K + 1) (m + 1) = true by rw [HST.out, hpe]; simp [hz])
                have hz2 : (z != 0) = true := by simpa using hz
                clear hpe hpe3
                go_wp2_with (first | (go_at_call 36; refine (HW.out _).mono ?_; rintro e w' ⟨rfl, rfl⟩))
                go_roundw
                case rel => exact ⟨m + 1, true, by omega, by omega, by go_num, rfl, HN, trivial⟩
                case measure => simp [intOf]; omega
            · have hpe2 : ((p : Int) == (K : Int) + 1) = false := by rw [beq_eq_false_iff_ne]; omega
              have HN := Lib.hid (show smF L (K + 1) (m + 1) = false by rw [HST.out]; simp [hpe])
              clear hpe
              go_wp2_with (first | (go_at_call 36; refine (HW.out _).mono ?_; rintro e w' ⟨rfl, rfl⟩))
              go_roundw
              case rel => exact ⟨m + 1, false, by omega, by omega, by go_num, rfl, HN, trivial⟩
              case measure => simp [intOf]; omega
          · have HN := Lib.hid (show smF L (K + 1) (m + 1) = true by rw [HST.out]; simp)
            go_wp2_with (first | (go_at_call 36; refine (HW.out _).mono ?_; rintro e w' ⟨rfl, rfl⟩))
            go_roundw
            case rel => exact ⟨m + 1, true, by omega, by omega, by go_num, rfl, HN, trivial⟩
            case measure => simp [intOf]; omega
      · obtain rfl : m = s.size := by omega
        have hbK : b = true ∨ ¬ (K < k) := by
          by_cases h : K < k
          · left; rw [← HF.out]; exact HP.out.some h
          · exact Or.inr h
        have hkk : ¬ (K : Int) < (k : Int) ∨ b = true ∧ (K : Int) < (k : Int) := by
          rcases hbK with h | h
          · by_cases h2 : K < k
            · exact Or.inr ⟨h, by omega⟩
            · exact Or.inl (by omega)
          · exact Or.inl (by omega)
        clear hbK hd2 hKki HF
        rcases hkk with hkk | ⟨rfl, hkk⟩
        all_goals
          go_wp2_with fail
          refine (r8At_any a' len' cap' bs' 0 (s.size : Int) _ (HX'.out.below Hb4.out)).mono ?_
          rintro e w5 ⟨x, rfl, hx0, hx1, rfl⟩
          obtain ⟨mk, rfl⟩ := Int.eq_ofNat_of_zero_le hx0
          have hmk : mk < s.size := by omega
          have HW := Lib.hid (fun w => r8Weight_any mk w (by omega))
          have hp6 := (pop6_step mk (by omega)).2
          have hpt := HPart.out mk
          obtain ⟨P, hP⟩ : ∃ P, pop6 mk = P := ⟨_, rfl⟩
          rw [hP] at HW hpt hp6
          have HPT := Lib.hid hpt
          clear hpt hP hx0 hx1
          by_cases hPK : P ≤ K
          · have hPKi : (P : Int) ≤ (K : Int) := by omega
            go_wp2_with fail
            refine (HW.out _).mono ?_
            rintro e w5 ⟨rfl, rfl⟩
            go_wp2_with fail
            refine (r8At_any a' len' cap' bs' 1 (s.size : Int) _ (HX'.out.below Hb4.out)).mono ?_
            rintro e w6 ⟨x, rfl, hx0, hx1, rfl⟩
            obtain ⟨v, rfl⟩ := Int.eq_ofNat_of_zero_le hx0
            have hv : v < s.size := by omega
            have hand : bits .and .i64 (v : Int) (mk : Int) = ((v &&& mk : Nat) : Int) := and_i64 v mk (by omega) (by omega)
            have HV := Lib.hid (HPT.out v hmk hPK hv)
            have hvl : v &&& mk ≤ v := Nat.and_le_left
            obtain ⟨V, hVe⟩ : ∃ V, v &&& mk = V := ⟨_, rfl⟩
            rw [hVe] at hand HV hvl
            clear hVe hx0 hx1
            go_wp2
            obtain ⟨wq, hwq⟩ : ∃ wq : World, wq = w5 := ⟨_, rfl⟩
            rw [← hwq] at Hb4 ⊢
            clear hwq
            go_loopw [18, 16, 17] (fun x o i wz => ∃ (m O I : Nat), m ≤ s.size ∧ O ≤ m ∧ I ≤ m ∧ x = .int .i64 (m : Nat) ∧ o = .int .i64 (O : Nat) ∧ i = .int .i64 (I : Nat) ∧ Hid (onF f m = O) ∧ Hid (inF f mk V m = I) ∧ wz = wq) (fun x _ _ _ => s.size - (intOf x).toNat)
            case atStart => exact ⟨0, 0, 0, Nat.zero_le _, Nat.le_refl _, Nat.le_refl _, rfl, rfl, rfl, Lib.hid rfl, Lib.hid rfl, rfl⟩
            case round =>
              obtain ⟨m, O, I, hm, hO, hI, rfl, rfl, rfl, HO, HI, rfl⟩ := hrel
              by_cases hlt : m < s.size
              · have hm0 : (0:Int) ≤ (m:Int) := by omega
                have hmi : (m:Int) < (s.size:Int) := by omega
                have hbx := HB.out m hlt
                rw [← get_by8 s m hlt] at hbx
                obtain ⟨cb, hcb⟩ : ∃ cb : Int, ((s[m]).toNat : Int) = cb := ⟨_, rfl⟩
                rw [hcb] at hbx
                have hand2 : bits .and .i64 (m : Int) (mk : Int) = ((m &&& mk : Nat) : Int) := and_i64 m mk (by omega) (by omega)
                have ho : onF f (m + 1) = onF f m + (if f m then 1 else 0) := rfl
                have hi : inF f mk V (m + 1) = inF f mk V m + (if m &&& mk = V ∧ f m = true then 1 else 0) := rfl
                rw [HO.out] at ho
                rw [HI.out] at hi
                obtain ⟨u, hu⟩ : ∃ u, m &&& mk = u := ⟨_, rfl⟩
                rw [hu] at hi hand2
                obtain ⟨bb, hbb⟩ : ∃ bb, f m = bb := ⟨_, rfl⟩
                rw [hbb] at ho hi hbx
                clear hu hbb
                by_cases huV : u = V
                · have hub : ((u : Int) == (V : Int)) = true := by rw [beq_iff_eq]; omega
                  cases bb
                  · simp only [Bool.false_eq_true, if_false] at hbx
                    subst hbx
                    have HO2 := Lib.hid (show onF f (m + 1) = O by rw [ho]; rfl)
                    have HI2 := Lib.hid (show inF f mk V (m + 1) = I by rw [hi, if_neg (by simp), Nat.add_zero])
                    clear ho hi
                    subst huV
                    go_wp2
                    go_roundw
                    case rel => exact ⟨m + 1, O, I, by omega, by omega, by omega, by go_num, rfl, rfl, HO2, HI2, trivial⟩
                    case measure => simp [intOf]; omega
                  · simp only [if_true] at hbx
                    subst hbx
                    have HO2 := Lib.hid (show onF f (m + 1) = O + 1 by rw [ho]; rfl)
                    have HI2 := Lib.hid (show inF f mk V (m + 1) = I + 1 by rw [hi, if_pos ⟨huV, rfl⟩])
                    clear ho hi
                    subst huV
                    go_wp2
                    go_roundw
                    case rel => exact ⟨m + 1, O + 1, I + 1, by omega, by omega, by omega, by go_num, by go_num, by go_num, HO2, HI2, trivial⟩
                    case measure => simp [intOf]; omega
                · have hub : (u == V) = false := by rw [beq_eq_false_iff_ne]; omega
                  have hub2 : ((u : Int) == (V : Int)) = false := by rw [beq_eq_false_iff_ne]; omega
                  have HI2 := Lib.hid (show inF f mk V (m + 1) = I by rw [hi, if_neg (fun h => huV h.1), Nat.add_zero])
                  cases bb
                  · simp only [Bool.false_eq_true, if_false] at hbx
                    subst hbx
                    have HO2 := Lib.hid (show onF f (m + 1) = O by rw [ho]; rfl)
                    clear ho hi huV
                    go_wp2
                    go_roundw
                    case rel => exact ⟨m + 1, O, I, by omega, by omega, by omega, by go_num, rfl, rfl, HO2, HI2, trivial⟩
                    case measure => simp [intOf]; omega
                  · simp only [if_true] at hbx
                    subst hbx
                    have HO2 := Lib.hid (show onF f (m + 1) = O + 1 by rw [ho]; rfl)
                    clear ho hi huV
                    go_wp2
                    go_roundw
                    case rel => exact ⟨m + 1, O + 1, I, by omega, by omega, by omega, by go_num, by go_num, rfl, HO2, HI2, trivial⟩
                    case measure => simp [intOf]; omega
              · obtain rfl : m = s.size := by omega
                have hfin : I * 2 ^ P = O := by rw [← HI.out, ← HO.out]; exact HV.out
                have HFin := Lib.hid hfin
                clear hfin
                go_wp2_with fail
                refine (HW.out _).mono ?_
                rintro e w9 ⟨rfl, rfl⟩
                go_wp2
                have hcast : (I : Int) * (2 : Int) ^ P = (O : Int) := by rw [← HFin.out]; simp
                have hfw : (wrap64 ((I : Int) * (2 : Int) ^ P) == (O : Int)) = true := by rw [hcast, wrap_in _ (by omega) (by omega)]; simp
                rw [hfw]
                go_ret
                exact ⟨rfl, Hb4.out⟩
          · have hPKi : ¬ (P : Int) ≤ (K : Int) := by omega
            have hPKj : (K : Int) < (P : Int) := by omega
            go_wp2_with fail
            refine (HW.out _).mono ?_
            rintro e w5 ⟨rfl, rfl⟩
            go_wp2
            go_ret
            exact ⟨rfl, Hb4.out⟩
end Go.Proofs.YtflgooogiceliaaDoor

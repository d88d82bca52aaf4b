import Derived.Test.YtlckamnadddlmaaGreatDoorPmQ
import Derived.Test.YtlckamnadddlmaaGreatDoorLongX
/- The program's law of patterns. Condition: at most 50 bits, a pattern of at most 6. -/
namespace Go.Proofs.YtlckamnadddlmaaGreatDoor
open Go.RowKit Go.Maps
set_option linter.unusedVariables false

theorem pl_vP {pat : List UInt8} (h1 : 1 ≤ pat.length) (h6 : pat.length ≤ 6) {i : Nat} (hi : i ≤ 50) {p : List UInt8 × Nat} (hp : p ∈ stL (plNx pat) ([], 0) i) : vP p := by
  have := pl_valid pat h1 i p hp
  exact ⟨by omega, by omega⟩
theorem ct_pos {L : List (List UInt8 × Nat)} {p : List UInt8 × Nat} (h : p ∈ L) : 0 < ctP L p := by
  unfold ctP
  exact @List.count_pos_iff _ instBEqOfDecidableEq _ p L |>.2 h
theorem ct_mem {L : List (List UInt8 × Nat)} {p : List UInt8 × Nat} (h : 0 < ctP L p) : p ∈ L := by
  unfold ctP at h
  exact @List.count_pos_iff _ instBEqOfDecidableEq _ p L |>.1 h
theorem pow_50s {k : Nat} (hk : k ≤ 50) : 2 ^ k ≤ 1125899906842624 := Nat.pow_le_pow_right (show 0 < 2 by omega) hk
set_option maxRecDepth 100000 in
set_option maxHeartbeats 6400000 in
theorem patI_any (n : Nat) (P : ByteArray) (w : World) (h1 : 1 ≤ n) (h2 : n ≤ 50) (hp : patOk P = true) :
    Calls Tryz.prog 10 #[.int .i64 (n : Nat), .string P] w (RetLaw w true (lvT 0 (cntL P.data.toList n) (n + 1)) (lfT (cntL P.data.toList n) (2 ^ n) (n + 1))) := by
  have hmm := @run_makeMap Tryz.prog
  have HR := Lib.hid (show inR (n : Int) 1 50 = true by simp only [inR, Bool.and_eq_true, decide_eq_true_eq]; omega)
  have hpk := hp
  unfold patOk at hpk
  rw [Bool.and_eq_true] at hpk
  have hps : 1 ≤ P.size ∧ P.size ≤ 6 := by
    have := hpk.2
    simp only [inR, Bool.and_eq_true, decide_eq_true_eq] at this
    omega
  have HPat := Lib.hid (fun w => isPattern_any P w (by unfold maxLen; omega))
  have HPO := Lib.hid hp
  have hpl : P.data.toList.length = P.size := by simp
  obtain ⟨pat, hpat⟩ : ∃ l, P.data.toList = l := ⟨_, rfl⟩
  rw [hpat] at hpl ⊢
  have HPT := Lib.hid hpat
  have hl1 : 1 ≤ pat.length := by omega
  have hl6 : pat.length ≤ 6 := by omega
  clear hp hpk hpat
  have HA : Below w.heap.size w (w.alloc zeroLaw) := (Below.refl _ _).alloc (Nat.le_refl _) _
  obtain ⟨wA, hwA⟩ : ∃ w', w.alloc zeroLaw = w' := ⟨_, rfl⟩
  have hbx : LBox wA w.heap.size (.slice none 0 0) (.slice none 0 0) := by rw [← hwA]; exact heap_at_new _ _
  rw [hwA] at HA
  unfold zeroLaw at hwA
  have hsz : w.heap.size < wA.heap.size := by rw [← hwA]; simp
  have H0 := Lib.hid (And.intro HA (And.intro hbx hsz))
  clear hbx HA hsz
  go_enter Tryz.func10, Tryz.ntmps10
  go_wp2_with fail
  refine (isFair_any _ _).mono ?_
  rintro e w1 ⟨rfl, rfl⟩
  rw [HR.out]
  go_wp2_with fail
  refine (HPat.out _).mono ?_
  rintro e w1 ⟨rfl, hb1⟩
  rw [HPO.out]
  have HB1 := Lib.hid hb1
  clear hb1 hwA
  go_upto_region 3 with fail
  have hk0 := plV_key (p := ([], 0)) ⟨by simp, by simp⟩
  have hown0 : (w1.alloc (.map #[] 0)).ownsMap Tryz.prog 56 (plainElem (H := Unit) Tryz.prog 2) w1.heap.size 0 (.map []) := World.ownsMap_made _ _ _ _
  have hval0 : plainElem (H := Unit) Tryz.prog 2 (.int .i64 1) = some (.lit (.int .i64 1), []) := plainElem_int Tryz.underlying2 (by decide)
  have HK0 := Lib.hid (And.intro hk0 (And.intro hown0 hval0))
  clear hk0 hown0 hval0
  go_wp2_with (refine wpList_insert_own _ rfl (.tmp 26) (.tmp 27) (.const (.int .i64 1)) 57 rfl 56 2 plK Tryz.underlying57 _ w1.heap.size 0 (.map []) rfl HK0.out.2.1 (by decide) _ _ _ rfl rfl HK0.out.1 _ _ HK0.out.2.2 ?_; intro w2 hown hgrow)
  obtain ⟨nx, hnx⟩ : ∃ nx, plNx pat = nx := ⟨_, rfl⟩
  have HNX := Lib.hid hnx
  have HVP := Lib.hid (show ∀ i p, i ≤ 50 → p ∈ stL nx ([], 0) i → vP p from fun i p hi hp => by rw [← hnx] at hp; exact pl_vP hl1 hl6 hi hp)
  have HM1 := Lib.hid (show OMp w2 w1.heap.size (2 ^ 0) (ctP (stL nx ([], 0) 0)) ∧ Below wA.heap.size wA w2 ∧ wA.heap.size ≤ w1.heap.size from by
    refine ⟨⟨_, hown, (MapP.put (mapP_empty (H := Unit)) (p := ([], 0)) ⟨by simp, by simp⟩ 1 (by decide)).congr ?_⟩, ?_, HB1.out.size⟩
    · intro q
      show (if q = ([], 0) then 1 else 0) = @List.count _ instBEqOfDecidableEq q [([], 0)]
      by_cases e : q = ([], 0)
      · rw [if_pos e, e]; decide
      · rw [if_neg e]
        symm
        exact @List.count_eq_zero_of_not_mem _ instBEqOfDecidableEq _ q _ (by simpa using e)
    · exact (HB1.out.alloc HB1.out.size _).grown hgrow (by have := HB1.out.size; simp; omega) (fun k hk => by cases hk; exact HB1.out.size))
  clear hown hgrow HK0
  obtain ⟨b0, hb0⟩ : ∃ b, w1.heap.size = b := ⟨_, rfl⟩
  rw [hb0] at HM1 ⊢
  clear hb0
  go_wp2_with fail
  go_loopw [30, 6] (fun i v wr => ∃ (k b : Nat), k ≤ n ∧ i = .int .i64 (k : Nat) ∧ v = .map (some b) ∧ Hid (OMp wr b (2 ^ k) (ctP (stL nx ([], 0) k)) ∧ Below wA.heap.size wA wr ∧ wA.heap.size ≤ b)) (fun i _ _ => n - (intOf i).toNat)
  case atStart => exact ⟨0, b0, Nat.zero_le _, rfl, rfl, HM1⟩
  case round =>
    clear HM1
    obtain ⟨k, b, hk, rfl, rfl, HM⟩ := hrel
    by_cases hlt : k < n
    · have hki : (k : Int) < (n : Int) := by omega
      obtain ⟨wq, hwq⟩ : ∃ w' : World, w' = wr := ⟨_, rfl⟩
      subst hwq
      obtain ⟨D, hD, hMP⟩ := HM.out.1
      have HD := Lib.hid (And.intro (hD.alloc (.map #[] 0)) (And.intro hMP (And.intro (hD.alloc (.map #[] 0)).size_le hD.lt)))
      have HN := Lib.hid (show OMp (wq.alloc (.map #[] 0)) wq.heap.size 0 (fun _ => 0) from OMp.made wq)
      clear hD hMP
      go_wp2_with (at_range; refine wpList_range_own _ rfl _ 57 rfl 56 2 plK Tryz.underlying57 (plainElem (H := Unit) Tryz.prog 2) b (2 ^ k) D rfl HD.out.1 ?_; intro w0 hrg0 hg0 hs0)
      go_frame
      rw [alloc_size] at hrg0 hs0 ⊢
      obtain ⟨L, hL⟩ : ∃ L, stL nx ([], 0) k = L := ⟨_, rfl⟩
      have HVL := Lib.hid (show ∀ p, p ∈ L → vP p from fun p hp => HVP.out k p (by omega) (by rw [hL]; exact hp))
      have hb7 : b < wq.heap.size := HD.out.2.2.2
      have HP0 := Lib.hid (show PL2 wA w0 (nx k) L b (wq.heap.size + 1) wq.heap.size k from by
        refine ⟨has D, size D, 0, ?_, ⟨D, hrg0, by rw [← hL]; exact HD.out.2.1, fun kl h => h⟩, ?_, ?_⟩
        · have := HD.out.2.2.1
          rw [Nat.pow_succ]
          omega
        · refine (HN.out.kept hg0 (by simp)).congr fun q hq => ?_
          symm
          refine doneN_start L (nx k) _ q fun p hp c => ?_
          unfold lfP
          refine HD.out.2.1.h p (HVL.out p hp) ?_
          rw [hL]
          exact ct_pos hp
        · exact (HM.out.2.1.alloc HM.out.2.1.size _).grown hg0 (by have := HM.out.2.1.size; simp; omega) (fun j hj => by cases hj))
      have HBQ := Lib.hid (show wA.heap.size ≤ wq.heap.size from HM.out.2.1.size)
      have HLL := Lib.hid hL
      clear hrg0 hg0 hs0 hL HN HD HM
      obtain ⟨b7, hb7e⟩ : ∃ x, wq.heap.size = x := ⟨_, rfl⟩
      rw [hb7e] at HP0 HBQ hb7 ⊢
      obtain ⟨r, hre⟩ : ∃ x, b7 + 1 = x := ⟨_, rfl⟩
      rw [hre] at HP0 ⊢
      have HRB := Lib.hid (show r ≠ b7 ∧ b ≠ b7 ∧ b7 ≤ r by omega)
      clear hb7e hre hb7
      go_loopw [9] (fun v9 wx => Hid (PL2 wA wx (nx k) L b r b7 k)) (fun _ wx => wx.rangeLeft b r)
      case atStart => exact HP0
      case round =>
        clear HP0
        have HP := hrel
        obtain ⟨left, cnt, N7, hN7, ⟨D, hrg, hmp, hlf⟩, HO7, hbel⟩ := HP.out
        have HRG := Lib.hid hrg
        have HX := Lib.hid (And.intro hmp (And.intro hlf (And.intro HO7 (And.intro hbel hN7))))
        clear hrg hmp hlf HO7 hbel hN7
        go_wp2_with (at_next; refine wpList_next_ranges _ rfl (.tmp 34) rfl 56 plK (plainElem (H := Unit) Tryz.prog 2) (fun x : ByteArray × Int => .agg #[.string x.1, .int .i64 x.2]) (fun c : Int => .int .i64 c) (fun key kl h => keyOf_inv h) (fun v y h => (by obtain ⟨c, hc, _⟩ := plainElem_int_inv Tryz.underlying2 h; exact ⟨c, hc⟩)) b r (2 ^ k) D left cnt rfl HRG.out ?_ ?_)
        · intro hc0 hl0
          have HM2 := Lib.hid (show OMp wr b7 (2 ^ (k + 1)) (ctP (stL nx ([], 0) (k + 1))) ∧ Below wA.heap.size wA wr ∧ wA.heap.size ≤ b7 from by
            refine ⟨(HX.out.2.2.1.mono (by have := HX.out.2.2.2.2; omega)).congr fun q hq => ?_, HX.out.2.2.2.1, HBQ.out⟩
            rw [← HLL.out]
            exact doneN_end nx ([], 0) k _ q fun z _ => hl0 _)
          clear hc0 hl0 HX HRG HP hrel HLL HVL HRB HBQ
          go_wp2_with fail
          go_roundw
          case rel => exact ⟨k + 1, b7, by omega, by go_num, rfl, HM2⟩
          case measure => simp [intOf]; omega
        · intro x1 x2 c kl y1 y2 w' cnt1 hkey hlk hRv hat hrg1 hlt1 hg1 hs1 hen
          obtain ⟨p, hpv, rfl, hp0⟩ := HX.out.1.k kl (HX.out.2.1 kl hlk)
          have HPL := Lib.hid (ct_mem hp0)
          have hxe : (Value.agg #[.string x1, .int .i64 x2]) = plV p := plK.inj hkey (plV_key hpv)
          have hce : c = (ctP L p : Nat) := by
            obtain ⟨c', hc1, hc2, _⟩ := plainElem_int_inv Tryz.underlying2 hRv
            have h3 := hat (.lit (.int .i64 0))
            simp only [Prod.mk.injEq] at hc2
            rw [HX.out.1.a p hpv, hc2.1] at h3
            simp only [Value.int.injEq, true_and] at hc1
            simp only [DataW.lit.injEq, Lit.int.injEq, true_and] at h3
            omega
          simp only [plV, Value.agg.injEq, Array.mk.injEq, List.cons.injEq, Value.string.injEq, Value.int.injEq, true_and, and_true] at hxe
          obtain ⟨rfl, rfl⟩ := hxe
          subst hce
          have HST := Lib.hid (show RGp w' b r (2 ^ k) (ctP L) (fun z => left z && !z.sameKey (plKey p)) cnt1 ∧ OMp w' b7 N7 (doneN L (nx k) (lfJ left p 0)) ∧ Below wA.heap.size wA w' ∧ left (plKey p) = true ∧ vP p ∧ N7 + 2 * cnt1 + 2 ≤ 2 ^ (k + 1) from by
            refine ⟨⟨D, hrg1, HX.out.1, fun kl h => HX.out.2.1 kl (by simp only [Bool.and_eq_true] at h; exact h.1)⟩, ?_, ?_, hlk, hpv, by have := HX.out.2.2.2.2; omega⟩
            · rw [lfJ_zero]
              exact HX.out.2.2.1.kept hg1 (by simp; exact fun e => HRB.out.1 e.symm)
            · exact HX.out.2.2.2.1.grown hg1 HX.out.2.2.2.1.size (fun j hj => by cases hj; exact Nat.le_trans HBQ.out HRB.out.2.2))
          clear hkey hlk hRv hat hrg1 hg1 HX HP hrel hp0
          go_wp2_with fail
          obtain ⟨wE, hwE⟩ : ∃ wE, (w'.alloc (.cells #[.string ⟨p.1.toArray⟩, .int .i64 (p.2 : Nat)] 56 (0, 0))).alloc (.cells #[.string ⟨#[48]⟩, .string ⟨#[49]⟩] 9 (0, 0)) = wE := ⟨_, rfl⟩
          have hb8 : wE.heap[wr.heap.size]? = some (.cells #[.string ⟨p.1.toArray⟩, .int .i64 (p.2 : Nat)] 56 (0, 0)) := by
            rw [← hwE, heap_alloc_if, alloc_size, hs1, if_neg (by omega), heap_alloc_if, hs1, if_pos rfl]
          have hb40 : wE.heap[wr.heap.size + 1]? = some (.cells #[.string ⟨#[48]⟩, .string ⟨#[49]⟩] 9 (0, 0)) := by
            rw [← hwE, heap_alloc_if, alloc_size, hs1, if_pos rfl]
          have hbE : Below w'.heap.size w' wE := by rw [← hwE]; exact ((Below.refl _ w').alloc (Nat.le_refl _) _).alloc (by simp) _
          have hEs : wE.heap.size = wr.heap.size + 2 := by rw [← hwE]; simp [hs1]
          have hb7l := HST.out.2.1.lt
          rw [hs1] at hb7l
          have hgE : w'.grownBy wE none := by rw [← hwE]; exact grownBy_trans (World.grownBy_alloc w' _ none) (World.grownBy_alloc _ _ none)
          have HE := Lib.hid (show RGp wE b r (2 ^ k) (ctP L) (fun z => left z && !z.sameKey (plKey p)) cnt1 ∧ Below wA.heap.size wA wE ∧ left (plKey p) = true ∧ vP p ∧ N7 + 2 * cnt1 + 2 ≤ 2 ^ (k + 1) ∧ wE.heap[wr.heap.size]? = some (.cells #[.string ⟨p.1.toArray⟩, .int .i64 (p.2 : Nat)] 56 (0, 0)) ∧ wE.heap[wr.heap.size + 1]? = some (.cells #[.string ⟨#[48]⟩, .string ⟨#[49]⟩] 9 (0, 0)) from
            ⟨HST.out.1.kept hgE (by simp) (by simp), bthen HST.out.2.2.1 hbE, HST.out.2.2.2.1, HST.out.2.2.2.2.1, HST.out.2.2.2.2.2, hb8, hb40⟩)
          have H30 := Lib.hid (show wE.grownBy wE (some b7) ∧ OMp wE b7 (N7 + 0) (doneN L (nx k) (lfJ left p 0)) from ⟨World.grownBy.refl _ _, HST.out.2.1.below hbE⟩)
          rw [hwE]
          obtain ⟨b8, hb8e⟩ : ∃ x, wr.heap.size = x := ⟨_, rfl⟩
          rw [hb8e] at HE hEs hb7l ⊢
          clear hb8 hb40 hbE hwE hgE HST hen hs1
          go_loopw [42] (fun v42 wx => ∃ j : Nat, j ≤ 2 ∧ v42 = .int .i64 (j : Nat) ∧ Hid (wE.grownBy wx (some b7) ∧ OMp wx b7 (N7 + j) (doneN L (nx k) (lfJ left p j)))) (fun v42 _ => 2 - (intOf v42).toNat)
          case atStart => exact ⟨0, by omega, rfl, H30⟩
          case round =>
            clear H30
            obtain ⟨j, hj, rfl, H3⟩ := hrel
            by_cases hj2 : j < 2
            · have hji : (j : Int) < 2 := by omega
              have hj0 : (0 : Int) ≤ (j : Int) := by omega
              obtain ⟨bt, hbt⟩ : ∃ bt : Bool, j = (if bt then 1 else 0) := by
                rcases (show j = 0 ∨ j = 1 by omega) with h | h
                · exact ⟨false, h⟩
                · exact ⟨true, h⟩
              have hg8 := (H3.out.1.block b8 (by omega) (by simp; omega)).trans HE.out.2.2.2.2.2.1
              have hg40 := (H3.out.1.block (b8 + 1) (by omega) (by simp; omega)).trans HE.out.2.2.2.2.2.2
              have q0 : wr.cell? ⟨b8, 0, none⟩ = some (.string ⟨p.1.toArray⟩) := by simp [World.cell?, hg8]
              have q1 : wr.cell? ⟨b8, 1, none⟩ = some (.int .i64 (p.2 : Nat)) := by simp [World.cell?, hg8]
              obtain ⟨BS, hBS⟩ : ∃ BS : ByteArray, ⟨#[bitB bt]⟩ = BS := ⟨_, rfl⟩
              have q2 : wr.cell? ⟨b8 + 1, j, none⟩ = some (.string BS) := by
                rw [← hBS, hbt]
                cases bt <;> simp [World.cell?, hg40, bitB]
              obtain ⟨PS, hPS⟩ : ∃ PS : ByteArray, ⟨p.1.toArray⟩ = PS := ⟨_, rfl⟩
              rw [hPS] at q0
              obtain ⟨S, hS⟩ : ∃ S : ByteArray, PS ++ BS = S := ⟨_, rfl⟩
              have hSl : S.data.toList = p.1 ++ [bitB bt] := by rw [← hS, ← hPS, ← hBS]; simp
              have HSL := Lib.hid hSl
              have hpz : PS.size = p.1.length := by rw [← hPS]; simp [ByteArray.size]
              have hbz : BS.size = 1 := by rw [← hBS]; rfl
              have hp10 := hpv.1
              have hp100 := hpv.2
              have hsz1 : S.size = p.1.length + 1 := by
                have := size_list S
                rw [hSl] at this
                simp at this
                omega
              have hss : ¬ 9223372036854775807 < PS.size + BS.size := by omega
              have HBT := Lib.hid hbt
              clear hg8 hg40 hBS hPS hSl hbt
              have hwp : IntKind.i64.wrap ((p.2 : Int) + 1) = (p.2 : Int) + 1 := IntWalk.i64_in _ (by omega)
              have hS1 : (1 : Int) ≤ (S.size : Int) := by omega
              have hcase : (p.1 ++ [bitB bt] = pat ∧ S.size = P.size) ∨ (¬ p.1 ++ [bitB bt] = pat ∧ S.size = P.size) ∨ (¬ p.1 ++ [bitB bt] = pat ∧ ¬ S.size = P.size) := by
                by_cases ha : p.1 ++ [bitB bt] = pat
                · left
                  refine ⟨ha, ?_⟩
                  rw [hsz1, ← hpl, ← ha]; simp
                · by_cases hb : S.size = P.size
                  · exact Or.inr (Or.inl ⟨ha, hb⟩)
                  · exact Or.inr (Or.inr ⟨ha, hb⟩)
              have heq : (S.toList == P.toList) = decide (p.1 ++ [bitB bt] = pat) := by
                rw [Lib.toList_data, Lib.toList_data, HSL.out, HPT.out]
                exact Bool.eq_iff_iff.2 (by rw [beq_iff_eq, decide_eq_true_iff])
              rcases hcase with ⟨ha, hb⟩ | ⟨ha, hb⟩ | ⟨ha, hb⟩
              · rw [decide_eq_true ha] at heq
                have hbi : (S.size : Int) = (P.size : Int) := by omega
                go_upto_region 19 with fail
                obtain ⟨q, hq⟩ : ∃ q, nx k p bt = q := ⟨_, rfl⟩
                have HQ := Lib.hid hq
                have hqv : vP q := by rw [← hq]; exact HVP.out (k + 1) _ (by omega) (stL_step (by rw [HLL.out]; exact HPL.out) bt)
                have hqe : q = ((p.1 ++ [bitB bt]).drop 1, p.2 + 1) := by
                  rw [← hq, ← HNX.out]
                  unfold plNx
                  rw [if_pos (by rw [hpl, ← hb, hsz1]; simp), if_pos ha]
                have hT : S.extract 1 (p.1.length + 1) = ⟨q.1.toArray⟩ := by
                  apply bytes_inj
                  rw [hqe]
                  rw [Lib.toList_data, Lib.toList_data]
                  have h9 := HSL.out
                  rw [← hsz1, Lib.extract_to_end, h9]
                have hv : (p.2 : Int) + 1 = ((q.2 : Nat) : Int) := by rw [hqe]; rfl
                rw [hT, hv]
                have hbG : Below wr.heap.size wr (wr.alloc (.cells #[.string ⟨q.1.toArray⟩, .int .i64 (q.2 : Nat)] 56 (0, 0))) := (Below.refl _ wr).alloc (Nat.le_refl _) _
                have hgG : wr.grownBy (wr.alloc (.cells #[.string ⟨q.1.toArray⟩, .int .i64 (q.2 : Nat)] 56 (0, 0))) none := World.grownBy_alloc wr _ none
                obtain ⟨wG, hwG⟩ : ∃ x, wr.alloc (.cells #[.string ⟨q.1.toArray⟩, .int .i64 (q.2 : Nat)] 56 (0, 0)) = x := ⟨_, rfl⟩
                have hh := heap_at_new wr (.cells #[.string ⟨q.1.toArray⟩, .int .i64 (q.2 : Nat)] 56 (0, 0))
                have e0 : wG.cell? ⟨wr.heap.size, 0, none⟩ = some (.string ⟨q.1.toArray⟩) := by rw [← hwG]; simp only [World.cell?, hh]; exact congrArg (fun z => some (Value.string z)) rfl
                have e1 : wG.cell? ⟨wr.heap.size, 1, none⟩ = some (.int .i64 (q.2 : Nat)) := by rw [← hwG]; simp only [World.cell?, hh]; exact congrArg (fun z => some (Value.int .i64 z)) rfl
                clear hh
                rw [hwG] at hbG hgG ⊢
                clear hwG hT hv hqe hq heq hbi hwp hS1 hss
                obtain ⟨Dn, hDn, hMn⟩ := H3.out.2.below hbG
                obtain ⟨c, st, w3, hrE, hatE, hgE, hszE, hlkE, hstE⟩ := ownsMap_entry hDn.drew plKL Tryz.underlying57 Tryz.zeroI64 Tryz.underlying2 (by have := HE.out.2.2.2.2.1; have := pow_50s (show k + 1 ≤ 50 by omega); unfold maxLen; omega) (plV_key hqv)
                obtain ⟨c', hrL, hatL, _⟩ := hDn.drew.lookup_int plK Tryz.underlying57 Tryz.underlying2 (Tryz.zeroI64 _) (plV_key hqv)
                have hcc : c' = c := by
                  rw [hatE] at hatL
                  simp only [DataW.lit.injEq, Lit.int.injEq, true_and] at hatL
                  exact hatL.symm
                subst hcc
                have hce : c' = ((doneN L (nx k) (lfJ left p j) q : Nat) : Int) := by
                  have := hMn.a q hqv
                  rw [hatE] at this
                  simp only [DataW.lit.injEq, Lit.int.injEq, true_and] at this
                  exact this
                have hdb : doneN L (nx k) (lfJ left p j) q ≤ 2 ^ (k + 1) := by rw [← HLL.out]; exact doneN_le nx ([], 0) k _ q
                have hcb : ctP L p ≤ 2 ^ k := by rw [← HLL.out]; exact stL_count_le nx ([], 0) k p
                have hpk1 := pow_50s (show k + 1 ≤ 50 by omega)
                have hpk2 := pow_50s (show k ≤ 50 by omega)
                obtain ⟨w6, hrS, hoS, hgS, hszS⟩ := hstE w3 (c' + (ctP L p : Nat)) (by rw [hce]; exact wf_i64 (doneN L (nx k) (lfJ left p j) q + ctP L p) (by omega)) rfl
                have hww : IntKind.i64.wrap (c' + (ctP L p : Nat)) = c' + (ctP L p : Nat) := IntWalk.i64_in _ (by rw [hce]; omega)
                have hc0 : 0 < ctP L p := ct_pos HPL.out
                have HF := Lib.hid (show wE.grownBy w6 (some b7) ∧ OMp w6 b7 (N7 + (j + 1)) (doneN L (nx k) (lfJ left p (j + 1))) from by
                  refine ⟨grownBy_trans H3.out.1 (grownBy_trans ((hgG.but _)) (grownBy_trans (grownBy_trans (grownBy_drewN _ 1 _) hgE) hgS)), ⟨_, hoS, ?_⟩⟩
                  have hm := hMn.put hqv (doneN L (nx k) (lfJ left p j) q + ctP L p) (by omega)
                  rw [hce]
                  refine hm.congr fun y => ?_
                  have hl := lfJ_step (L := L) (nx := nx k) HE.out.2.2.1 y bt
                  rw [← HBT.out, HQ.out] at hl
                  rw [hl]
                  by_cases hy : y = q
                  · rw [if_pos hy, hy, if_pos rfl]
                  · rw [if_neg hy, if_neg (fun e => hy e.symm), Nat.add_zero])
                unfold plV at hrE hrL hlkE
                have hrS2 : (Instr.entryStore 57 (.map (some b7)) (.int .i64 (st : Nat)) (.int .i64 (c' + (ctP L p : Nat)))).run Tryz.prog w3 = .ok () w6 := hrS
                have hj1 : IntKind.i64.wrap ((j : Int) + 1) = (j : Int) + 1 := IntWalk.i64_in _ (by omega)
                clear hDn hMn hatE hgE hszE hstE hatL hce hdb hcb hpk1 hpk2 hoS hgS hszS hc0 hbG hgG
                go_region
                all_goals
                  go_wp2_with fail
                  go_roundw
                  case rel => exact ⟨j + 1, by omega, by go_num, HF⟩
                  case measure => simp [intOf]; omega
              · rw [decide_eq_false ha] at heq
                have hbi : (S.size : Int) = (P.size : Int) := by omega
                go_upto_region 19 with fail
                obtain ⟨q, hq⟩ : ∃ q, nx k p bt = q := ⟨_, rfl⟩
                have HQ := Lib.hid hq
                have hqv : vP q := by rw [← hq]; exact HVP.out (k + 1) _ (by omega) (stL_step (by rw [HLL.out]; exact HPL.out) bt)
                have hqe : q = ((p.1 ++ [bitB bt]).drop 1, p.2) := by
                  rw [← hq, ← HNX.out]
                  unfold plNx
                  rw [if_pos (by rw [hpl, ← hb, hsz1]; simp), if_neg ha]
                have hT : S.extract 1 (p.1.length + 1) = ⟨q.1.toArray⟩ := by
                  apply bytes_inj
                  rw [hqe]
                  rw [Lib.toList_data, Lib.toList_data]
                  have h9 := HSL.out
                  rw [← hsz1, Lib.extract_to_end, h9]
                have hv : (p.2 : Int) = ((q.2 : Nat) : Int) := by rw [hqe]
                rw [hT]
                have hbG : Below wr.heap.size wr (wr.alloc (.cells #[.string ⟨q.1.toArray⟩, .int .i64 (p.2 : Nat)] 56 (0, 0))) := (Below.refl _ wr).alloc (Nat.le_refl _) _
                have hgG : wr.grownBy (wr.alloc (.cells #[.string ⟨q.1.toArray⟩, .int .i64 (p.2 : Nat)] 56 (0, 0))) none := World.grownBy_alloc wr _ none
                obtain ⟨wG, hwG⟩ : ∃ x, wr.alloc (.cells #[.string ⟨q.1.toArray⟩, .int .i64 (p.2 : Nat)] 56 (0, 0)) = x := ⟨_, rfl⟩
                have hh := heap_at_new wr (.cells #[.string ⟨q.1.toArray⟩, .int .i64 (p.2 : Nat)] 56 (0, 0))
                have e0 : wG.cell? ⟨wr.heap.size, 0, none⟩ = some (.string ⟨q.1.toArray⟩) := by rw [← hwG]; simp only [World.cell?, hh]; exact congrArg (fun z => some (Value.string z)) rfl
                have e1 : wG.cell? ⟨wr.heap.size, 1, none⟩ = some (.int .i64 (q.2 : Nat)) := by rw [← hwG]; simp only [World.cell?, hh]; exact congrArg (fun z => some (Value.int .i64 z)) hv
                clear hh
                rw [hwG] at hbG hgG ⊢
                clear hwG hT hv hqe hq heq hbi hwp hS1 hss
                obtain ⟨Dn, hDn, hMn⟩ := H3.out.2.below hbG
                obtain ⟨c, st, w3, hrE, hatE, hgE, hszE, hlkE, hstE⟩ := ownsMap_entry hDn.drew plKL Tryz.underlying57 Tryz.zeroI64 Tryz.underlying2 (by have := HE.out.2.2.2.2.1; have := pow_50s (show k + 1 ≤ 50 by omega); unfold maxLen; omega) (plV_key hqv)
                obtain ⟨c', hrL, hatL, _⟩ := hDn.drew.lookup_int plK Tryz.underlying57 Tryz.underlying2 (Tryz.zeroI64 _) (plV_key hqv)
                have hcc : c' = c := by
                  rw [hatE] at hatL
                  simp only [DataW.lit.injEq, Lit.int.injEq, true_and] at hatL
                  exact hatL.symm
                subst hcc
                have hce : c' = ((doneN L (nx k) (lfJ left p j) q : Nat) : Int) := by
                  have := hMn.a q hqv
                  rw [hatE] at this
                  simp only [DataW.lit.injEq, Lit.int.injEq, true_and] at this
                  exact this
                have hdb : doneN L (nx k) (lfJ left p j) q ≤ 2 ^ (k + 1) := by rw [← HLL.out]; exact doneN_le nx ([], 0) k _ q
                have hcb : ctP L p ≤ 2 ^ k := by rw [← HLL.out]; exact stL_count_le nx ([], 0) k p
                have hpk1 := pow_50s (show k + 1 ≤ 50 by omega)
                have hpk2 := pow_50s (show k ≤ 50 by omega)
                obtain ⟨w6, hrS, hoS, hgS, hszS⟩ := hstE w3 (c' + (ctP L p : Nat)) (by rw [hce]; exact wf_i64 (doneN L (nx k) (lfJ left p j) q + ctP L p) (by omega)) rfl
                have hww : IntKind.i64.wrap (c' + (ctP L p : Nat)) = c' + (ctP L p : Nat) := IntWalk.i64_in _ (by rw [hce]; omega)
                have hc0 : 0 < ctP L p := ct_pos HPL.out
                have HF := Lib.hid (show wE.grownBy w6 (some b7) ∧ OMp w6 b7 (N7 + (j + 1)) (doneN L (nx k) (lfJ left p (j + 1))) from by
                  refine ⟨grownBy_trans H3.out.1 (grownBy_trans ((hgG.but _)) (grownBy_trans (grownBy_trans (grownBy_drewN _ 1 _) hgE) hgS)), ⟨_, hoS, ?_⟩⟩
                  have hm := hMn.put hqv (doneN L (nx k) (lfJ left p j) q + ctP L p) (by omega)
                  rw [hce]
                  refine hm.congr fun y => ?_
                  have hl := lfJ_step (L := L) (nx := nx k) HE.out.2.2.1 y bt
                  rw [← HBT.out, HQ.out] at hl
                  rw [hl]
                  by_cases hy : y = q
                  · rw [if_pos hy, hy, if_pos rfl]
                  · rw [if_neg hy, if_neg (fun e => hy e.symm), Nat.add_zero])
                unfold plV at hrE hrL hlkE
                have hrS2 : (Instr.entryStore 57 (.map (some b7)) (.int .i64 (st : Nat)) (.int .i64 (c' + (ctP L p : Nat)))).run Tryz.prog w3 = .ok () w6 := hrS
                have hj1 : IntKind.i64.wrap ((j : Int) + 1) = (j : Int) + 1 := IntWalk.i64_in _ (by omega)
                clear hDn hMn hatE hgE hszE hstE hatL hce hdb hcb hpk1 hpk2 hoS hgS hszS hc0 hbG hgG
                go_region
                all_goals
                  go_wp2_with fail
                  go_roundw
                  case rel => exact ⟨j + 1, by omega, by go_num, HF⟩
                  case measure => simp [intOf]; omega
              · rw [decide_eq_false ha] at heq
                have hbi : ¬ (S.size : Int) = (P.size : Int) := by omega
                go_upto_region 19 with fail
                obtain ⟨q, hq⟩ : ∃ q, nx k p bt = q := ⟨_, rfl⟩
                have HQ := Lib.hid hq
                have hqv : vP q := by rw [← hq]; exact HVP.out (k + 1) _ (by omega) (stL_step (by rw [HLL.out]; exact HPL.out) bt)
                have hqe : q = (p.1 ++ [bitB bt], p.2) := by
                  rw [← hq, ← HNX.out]
                  unfold plNx
                  rw [if_neg (by rw [hpl]; intro e; apply hb; rw [hsz1, ← e]; simp), if_neg ha]
                have hT : S = ⟨q.1.toArray⟩ := by
                  apply bytes_inj
                  rw [hqe]
                  rw [Lib.toList_data, Lib.toList_data, HSL.out]
                have hv : (p.2 : Int) = ((q.2 : Nat) : Int) := by rw [hqe]
                have hbG : Below wr.heap.size wr (wr.alloc (.cells #[.string S, .int .i64 (p.2 : Nat)] 56 (0, 0))) := (Below.refl _ wr).alloc (Nat.le_refl _) _
                have hgG : wr.grownBy (wr.alloc (.cells #[.string S, .int .i64 (p.2 : Nat)] 56 (0, 0))) none := World.grownBy_alloc wr _ none
                obtain ⟨wG, hwG⟩ : ∃ x, wr.alloc (.cells #[.string S, .int .i64 (p.2 : Nat)] 56 (0, 0)) = x := ⟨_, rfl⟩
                have hh := heap_at_new wr (.cells #[.string S, .int .i64 (p.2 : Nat)] 56 (0, 0))
                have e0 : wG.cell? ⟨wr.heap.size, 0, none⟩ = some (.string ⟨q.1.toArray⟩) := by rw [← hwG]; simp only [World.cell?, hh]; exact congrArg (fun z => some (Value.string z)) hT
                have e1 : wG.cell? ⟨wr.heap.size, 1, none⟩ = some (.int .i64 (q.2 : Nat)) := by rw [← hwG]; simp only [World.cell?, hh]; exact congrArg (fun z => some (Value.int .i64 z)) hv
                clear hh
                rw [hwG] at hbG hgG ⊢
                clear hwG hT hv hqe hq heq hbi hwp hS1 hss
                obtain ⟨Dn, hDn, hMn⟩ := H3.out.2.below hbG
                obtain ⟨c, st, w3, hrE, hatE, hgE, hszE, hlkE, hstE⟩ := ownsMap_entry hDn.drew plKL Tryz.underlying57 Tryz.zeroI64 Tryz.underlying2 (by have := HE.out.2.2.2.2.1; have := pow_50s (show k + 1 ≤ 50 by omega); unfold maxLen; omega) (plV_key hqv)
                obtain ⟨c', hrL, hatL, _⟩ := hDn.drew.lookup_int plK Tryz.underlying57 Tryz.underlying2 (Tryz.zeroI64 _) (plV_key hqv)
                have hcc : c' = c := by
                  rw [hatE] at hatL
                  simp only [DataW.lit.injEq, Lit.int.injEq, true_and] at hatL
                  exact hatL.symm
                subst hcc
                have hce : c' = ((doneN L (nx k) (lfJ left p j) q : Nat) : Int) := by
                  have := hMn.a q hqv
                  rw [hatE] at this
                  simp only [DataW.lit.injEq, Lit.int.injEq, true_and] at this
                  exact this
                have hdb : doneN L (nx k) (lfJ left p j) q ≤ 2 ^ (k + 1) := by rw [← HLL.out]; exact doneN_le nx ([], 0) k _ q
                have hcb : ctP L p ≤ 2 ^ k := by rw [← HLL.out]; exact stL_count_le nx ([], 0) k p
                have hpk1 := pow_50s (show k + 1 ≤ 50 by omega)
                have hpk2 := pow_50s (show k ≤ 50 by omega)
                obtain ⟨w6, hrS, hoS, hgS, hszS⟩ := hstE w3 (c' + (ctP L p : Nat)) (by rw [hce]; exact wf_i64 (doneN L (nx k) (lfJ left p j) q + ctP L p) (by omega)) rfl
                have hww : IntKind.i64.wrap (c' + (ctP L p : Nat)) = c' + (ctP L p : Nat) := IntWalk.i64_in _ (by rw [hce]; omega)
                have hc0 : 0 < ctP L p := ct_pos HPL.out
                have HF := Lib.hid (show wE.grownBy w6 (some b7) ∧ OMp w6 b7 (N7 + (j + 1)) (doneN L (nx k) (lfJ left p (j + 1))) from by
                  refine ⟨grownBy_trans H3.out.1 (grownBy_trans ((hgG.but _)) (grownBy_trans (grownBy_trans (grownBy_drewN _ 1 _) hgE) hgS)), ⟨_, hoS, ?_⟩⟩
                  have hm := hMn.put hqv (doneN L (nx k) (lfJ left p j) q + ctP L p) (by omega)
                  rw [hce]
                  refine hm.congr fun y => ?_
                  have hl := lfJ_step (L := L) (nx := nx k) HE.out.2.2.1 y bt
                  rw [← HBT.out, HQ.out] at hl
                  rw [hl]
                  by_cases hy : y = q
                  · rw [if_pos hy, hy, if_pos rfl]
                  · rw [if_neg hy, if_neg (fun e => hy e.symm), Nat.add_zero])
                unfold plV at hrE hrL hlkE
                have hrS2 : (Instr.entryStore 57 (.map (some b7)) (.int .i64 (st : Nat)) (.int .i64 (c' + (ctP L p : Nat)))).run Tryz.prog w3 = .ok () w6 := hrS
                have hj1 : IntKind.i64.wrap ((j : Int) + 1) = (j : Int) + 1 := IntWalk.i64_in _ (by omega)
                clear hDn hMn hatE hgE hszE hstE hatL hce hdb hcb hpk1 hpk2 hoS hgS hszS hc0 hbG hgG
                go_region
                all_goals
                  go_wp2_with fail
                  go_roundw
                  case rel => exact ⟨j + 1, by omega, by go_num, HF⟩
                  case measure => simp [intOf]; omega
            · obtain rfl : j = 2 := by omega
              have hji : ¬ ((2 : Nat) : Int) < 2 := by omega
              have HNW := Lib.hid (show RGp wr b r (2 ^ k) (ctP L) (fun z => left z && !z.sameKey (plKey p)) cnt1 from HE.out.1.kept H3.out.1 (by simp; exact HRB.out.2.1) (by simp; exact HRB.out.1))
              have HPN := Lib.hid (show PL2 wA wr (nx k) L b r b7 k from by
                refine ⟨_, cnt1, N7 + 2, by have := HE.out.2.2.2.2.1; omega, HNW.out, H3.out.2.congr fun q hq => ?_, HE.out.2.1.grown H3.out.1 HE.out.2.1.size (fun y hy => by cases hy; exact HBQ.out)⟩
                exact doneN_congr fun x hx => lfJ_two hpv x (HVL.out _ hx))
              clear H3 HE
              go_wp2_with fail
              go_roundw
              case rel => exact HPN
              case measure => rw [HNW.out.left_eq, HRG.out.left_eq]; exact hlt1
    · obtain rfl : k = n := by omega
      have hki : ¬ (k : Int) < (k : Int) := by omega
      have HZ := Lib.hid (zeros_toList (k + 1))
      obtain ⟨i0, hi, hz0, hz1, hz2⟩ := info_parts Tryz.infoI
      obtain ⟨wq, hwq⟩ : ∃ w' : World, w' = wr := ⟨_, rfl⟩
      subst hwq
      go_wp2_with (at_make; refine wpList_make_full _ rfl _ _ 26 rfl wq.heap.size 2 i0 (.int .i64 0) 1 Tryz.underlying26 hi hz0 hz1 _ _ _ _ (k + 1) rfl rfl ?cL ?cC ?c1 ?c2 ?c3 ?_)
      case c1 => omega
      case c2 => unfold maxLen; omega
      intro w3 hown hgrow
      have HO := Lib.hid (show OwnI wq w3 wq.heap.size (k + 1) (List.replicate (k + 1) 0) from ⟨by rw [HZ.out] at hown; exact hown, (Below.refl _ _).grown hgrow (Nat.le_refl _) (by simp)⟩)
      clear hown hgrow HZ hi hz0 hz1 hz2
      obtain ⟨g0, hg0⟩ : ∃ g, wq.heap.size = g := ⟨_, rfl⟩
      rw [hg0] at HO ⊢
      have HG0 := Lib.hid hg0
      clear hg0
      obtain ⟨D, hD, hMP⟩ := HM.out.1.below (by have := HO.out.2; exact this)
      have HD := Lib.hid (And.intro hD hMP)
      clear hD hMP
      go_wp2_with (at_range; refine wpList_range_own _ rfl _ 57 rfl 56 2 plK Tryz.underlying57 (plainElem (H := Unit) Tryz.prog 2) b (2 ^ k) D rfl HD.out.1 ?_; intro w4 hrg0 hg0 hs0)
      go_frame
      obtain ⟨L, hL⟩ : ∃ L, stL nx ([], 0) k = L := ⟨_, rfl⟩
      have HVL := Lib.hid (show ∀ p, p ∈ L → vP p from fun p hp => HVP.out k p (by omega) (by rw [hL]; exact hp))
      have HVK := Lib.hid (show ∀ p, p ∈ L → p.2 ≤ k from fun p hp => (pl_valid pat hl1 k p (by rw [HNX.out, hL]; exact hp)).2.1)
      have HLN := Lib.hid (show L.length = 2 ^ k by rw [← hL]; exact stL_len nx ([], 0) k)
      have HCN := Lib.hid (show cntL pat k = (List.range (k + 1)).map fun v => ((L.countP (fun s => s.2 == v) : Nat) : Int) by unfold cntL; rw [HNX.out, hL])
      have HRB := Lib.hid (show b ≠ g0 ∧ w3.heap.size ≠ g0 by
        have h1 := HM.out.1.lt
        have h2 := HO.out.lt
        have h3 := HG0.out
        omega)
      have HP0 := Lib.hid (show ∃ (left : Lit → Bool) (cnt : Nat), RGp w4 b w3.heap.size (2 ^ k) (ctP L) left cnt ∧ OwnI wq w4 g0 (k + 1) (cqL L left k) from by
        refine ⟨has D, size D, ⟨D, hrg0, by rw [← hL]; exact HD.out.2, fun kl h => h⟩, ?_⟩
        rw [cq_start fun p hp => HD.out.2.h p (HVL.out p hp) (by rw [hL]; exact ct_pos hp)]
        exact ⟨HO.out.1.kept hg0 (Or.inr (by simp [Value.ownBlock])), HO.out.2.grown hg0 HO.out.2.size (fun j hj => by cases hj)⟩)
      have HO3L := Lib.hid (show g0 < w3.heap.size from HO.out.lt.2)
      clear hrg0 hg0 hs0 hL HD HO
      have HRL := Lib.hid (show wq.heap.size < w3.heap.size by
        have h1 := HRB.out
        have h3 := HG0.out
        have h4 := HO3L.out
        omega)
      obtain ⟨r, hre⟩ : ∃ x, w3.heap.size = x := ⟨_, rfl⟩
      rw [hre] at HP0 HRB HRL ⊢
      clear hre
      go_loopw [16] (fun v16 wx => Hid (∃ (left : Lit → Bool) (cnt : Nat), RGp wx b r (2 ^ k) (ctP L) left cnt ∧ OwnI wq wx g0 (k + 1) (cqL L left k))) (fun _ wx => wx.rangeLeft b r)
      case atStart => exact HP0
      case round =>
        clear HP0
        have HP := hrel
        obtain ⟨left, cnt, ⟨D, hrg, hmp, hlf⟩, hO⟩ := HP.out
        have HRG := Lib.hid hrg
        have HX := Lib.hid (And.intro hmp (And.intro hlf hO))
        clear hrg hmp hlf hO
        go_wp2_with (at_next; refine wpList_next_ranges _ rfl (.tmp 83) rfl 56 plK (plainElem (H := Unit) Tryz.prog 2) (fun x : ByteArray × Int => .agg #[.string x.1, .int .i64 x.2]) (fun c : Int => .int .i64 c) (fun key kl h => keyOf_inv h) (fun v y h => (by obtain ⟨c, hc, _⟩ := plainElem_int_inv Tryz.underlying2 h; exact ⟨c, hc⟩)) b r (2 ^ k) D left cnt rfl HRG.out ?_ ?_)
        · intro hc0 hl0
          have hcq : cqL L left k = cntL pat k := by rw [HCN.out]; exact cq_end fun p _ => hl0 _
          have HOF := Lib.hid (show OwnI wq wr g0 (k + 1) (cntL pat k) by rw [← hcq]; exact HX.out.2.2)
          have HBF := Lib.hid (show ∀ i, i < k + 1 → (cntL pat k).getD i 0 ≤ 1000000000000000000 from fun i _ => by
            rw [← hcq]
            have h1 := (@cq_bd L left k i).2
            have h2 := HLN.out
            have h3 := pow_50s (show k ≤ 50 by omega)
            omega)
          clear hc0 hl0 HX HRG HP hrel hcq
          have hp := pow_cast k h2
          have hp0 : 0 < 2 ^ k := Nat.two_pow_pos k
          have hp1 := pow_50s h2
          obtain ⟨PW, hPW⟩ : ∃ PW, 2 ^ k = PW := ⟨_, rfl⟩
          have HPW := Lib.hid hPW
          rw [hPW] at hp hp0 hp1
          clear hPW
          have hk0 : (0 : Int) ≤ (k : Int) := by omega
          go_wp2_with fail
          refine (lawOf_any 0 _ (k + 1) (k + 1) (cntL pat k) PW _ (IsInts.of_own HOF.out.1) (by omega) (by omega) hp0 (by omega) (fun i hi => HBF.out i hi)).mono ?_
          rintro e w5 ⟨V2, C2, rfl, hl, hb⟩
          rw [← HPW.out] at hl
          obtain ⟨a1, c1, rfl⟩ := own_shape hl.val
          obtain ⟨a2, c2, rfl⟩ := own_shape hl.cha
          have hbA : Below wA.heap.size wA w5 := bthen (bthen HM.out.2.1 HOF.out.2) hb
          obtain ⟨q1, q2, q3, q4⟩ := pair_cells (LBox.below H0.out.2.1 hbA)
          have hr : w.heap.size < wr.heap.size := Nat.lt_of_lt_of_le H0.out.2.2 (bthen HM.out.2.1 HOF.out.2).size
          have HF := Lib.hid (And.intro ((law_box hl hr).mono (Nat.le_of_lt hr)) (below_box (wA := wA) (bthen H0.out.1 hbA) (Nat.le_refl _) (u := .slice a1 (lvT 0 (cntL pat k) (k + 1)).length c1) (v := .slice a2 (lvT 0 (cntL pat k) (k + 1)).length c2)))
          clear hl hb hbA hr
          go_wp2_with fail
          refine bodyPost_ret (v := .tuple #[.agg #[.slice a1 _ c1, .slice a2 _ c2], .bool true]) (by simp [results, Tryz.results10, go_sem, *]) rfl ⟨_, _, rfl, HF.out.1, HF.out.2⟩
        · intro x1 x2 c kl y1 y2 w' cnt1 hkey hlk hRv hat hrg1 hlt1 hg1 hs1 hen
          obtain ⟨p, hpv, rfl, hp0⟩ := HX.out.1.k kl (HX.out.2.1 kl hlk)
          have hpL := ct_mem hp0
          have HPL := Lib.hid hpL
          have hpk := HVK.out p hpL
          have hxe : (Value.agg #[.string x1, .int .i64 x2]) = plV p := plK.inj hkey (plV_key hpv)
          have hce : c = (ctP L p : Nat) := by
            obtain ⟨c', hc1, hc2, _⟩ := plainElem_int_inv Tryz.underlying2 hRv
            have h3 := hat (.lit (.int .i64 0))
            simp only [Prod.mk.injEq] at hc2
            rw [HX.out.1.a p hpv, hc2.1] at h3
            simp only [Value.int.injEq, true_and] at hc1
            simp only [DataW.lit.injEq, Lit.int.injEq, true_and] at h3
            omega
          simp only [plV, Value.agg.injEq, Array.mk.injEq, List.cons.injEq, Value.string.injEq, Value.int.injEq, true_and, and_true] at hxe
          obtain ⟨rfl, rfl⟩ := hxe
          subst hce
          have hO1 : OwnI wq w' g0 (k + 1) (cqL L left k) := ⟨HX.out.2.2.1.kept hg1 (Or.inr (by simp [Value.ownBlock]; exact fun e => HRB.out.2 e.symm)), HX.out.2.2.2.grown hg1 HX.out.2.2.2.size (fun y hy => by
            cases hy
            exact Nat.le_of_lt (HRL.out))⟩
          have hO2 : OwnI wq (w'.alloc (.cells #[.string ⟨p.1.toArray⟩, .int .i64 (p.2 : Nat)] 56 (0, 0))) g0 (k + 1) (cqL L left k) := hO1.after ((Below.refl _ w').alloc (Nat.le_refl _) _)
          have q0 := hO2.cell (show p.2 < k + 1 by omega)
          have f0 := hO2.frozen p.2
          have hO3 := hO2.set p.2 ((cqL L left k).getD p.2 0 + (ctP L p : Nat))
          rw [cq_step HVL.out hpv hlk hpk] at hO3
          have hrN : RGp w' b r (2 ^ k) (ctP L) (fun z => left z && !z.sameKey (plKey p)) cnt1 := ⟨D, hrg1, HX.out.1, fun kl h => HX.out.2.1 kl (by simp only [Bool.and_eq_true] at h; exact h.1)⟩
          have hbd := @cq_bd L left k p.2
          have hcb : ctP L p ≤ L.length := by unfold ctP; exact @List.count_le_length _ instBEqOfDecidableEq p L
          have hLN := HLN.out
          have hpw := pow_50s (show k ≤ 50 by omega)
          obtain ⟨X, hX⟩ : ∃ X, (cqL L left k).getD p.2 0 = X := ⟨_, rfl⟩
          rw [hX] at q0 hO3 hbd
          have hww : IntKind.i64.wrap (X + (ctP L p : Nat)) = X + (ctP L p : Nat) := IntWalk.i64_in _ (by omega)
          have HN3 := Lib.hid (show RGp ((w'.alloc (.cells #[.string ⟨p.1.toArray⟩, .int .i64 (p.2 : Nat)] 56 (0, 0))).setCell ⟨g0, p.2, none⟩ (.int .i64 (X + (ctP L p : Nat)))) b r (2 ^ k) (ctP L) (fun z => left z && !z.sameKey (plKey p)) cnt1 from
            (hrN.kept (World.grownBy_alloc w' _ none) (by simp) (by simp)).kept (grownBy_setCell _ ⟨g0, p.2, none⟩ _) (by simp; exact HRB.out.1) (by simp; exact HRB.out.2))
          have HO3 := Lib.hid hO3
          have hi0 : (0 : Int) ≤ (p.2 : Int) := by omega
          have hi1 : (p.2 : Int) < (k : Int) + 1 := by omega
          have hg0n : ¬ g0 = w'.heap.size := by have := hO1.lt; omega
          have hg0m : ¬ g0 = wr.heap.size := by have := hO1.lt; omega
          clear hkey hlk hRv hat hrg1 hg1 HX HP hrel hp0 hpL hO1 hO2 hO3 hrN hbd hcb hLN hpw hX
          go_wp2_with fail
          go_roundw
          case rel => exact Lib.hid ⟨_, cnt1, HN3.out, HO3.out⟩
          case measure => rw [HN3.out.left_eq, HRG.out.left_eq]; exact hlt1
end Go.Proofs.YtlckamnadddlmaaGreatDoor

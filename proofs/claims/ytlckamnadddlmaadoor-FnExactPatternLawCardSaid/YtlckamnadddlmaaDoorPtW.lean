import Derived.Test.YtlckamnadddlmaaDoorPtQ
/- The reference's law of patterns. Condition: at most 50 bits, a pattern of at most 6. -/
namespace Go.Proofs.YtlckamnadddlmaaDoor
open Go.RowKit
set_option linter.unusedVariables false

theorem Tryd.infoSI : (Tryd.prog.info? 22).map (fun i => (i.zero, i.size, i.bytes)) = some (some (.slice none 0 0), 1, 24) := by kernel_rfl
theorem nils_toList (n : Nat) : (madeCells #[Value.slice none 0 0] n).toList = List.replicate n (Value.slice none 0 0) := by
  apply List.ext_getElem?
  intro i
  by_cases hi : i < n
  · simp [madeCells, hi, Nat.mod_one]
  · simp [madeCells, hi]
def cntR (W own n : Nat) : List Int := (List.range (n + 1)).map fun v => (((stL (prNx W own) (0, 0) n).countP (fun s => s.2 == v) : Nat) : Int)
set_option maxRecDepth 100000 in
set_option maxHeartbeats 6400000 in
theorem patS_any (n : Nat) (P : ByteArray) (w : World) (h1 : 1 ≤ n) (h2 : n ≤ 50) (hp : patOk P = true) :
    Calls Tryd.prog 4 #[.int .i64 (n : Nat), .string P] w (RetLaw w true (lvT 0 (cntR P.size (numL P.data.toList 0) n) (n + 1)) (lfT (cntR P.size (numL P.data.toList 0) n) (2 ^ n) (n + 1))) := by
  have HR := Lib.hid (show inR (n : Int) 1 50 = true by simp only [inR, Bool.and_eq_true, decide_eq_true_eq]; omega)
  have hpk := hp
  unfold patOk at hpk
  rw [Bool.and_eq_true] at hpk
  have hps : 1 ≤ P.size ∧ P.size ≤ 6 := by
    have := hpk.2
    simp only [inR, Bool.and_eq_true, decide_eq_true_eq] at this
    omega
  have HPat := Lib.hid (fun w => l05Pattern_any P w (by unfold maxLen; omega))
  have HNum := Lib.hid (fun w => l01Number_any P w hpk.1 hps.2)
  have HPO := Lib.hid hp
  have hown : numL P.data.toList 0 < 2 ^ P.size := by
    have := numL_lt P.data.toList
    rw [size_list] at this
    exact this
  have hsh := pow_cast P.size (by omega)
  have hs64 : 2 ^ P.size ≤ 64 := Nat.pow_le_pow_right (show 0 < 2 by omega) hps.2
  have hs0 : 0 < 2 ^ P.size := Nat.two_pow_pos _
  obtain ⟨own, hoe⟩ : ∃ own, numL P.data.toList 0 = own := ⟨_, rfl⟩
  rw [hoe] at HNum hown ⊢
  obtain ⟨sz, hsz⟩ : ∃ sz, 2 ^ P.size = sz := ⟨_, rfl⟩
  have HSZ := Lib.hid hsz
  rw [hsz] at hown hsh hs64 hs0
  obtain ⟨W, hW⟩ : ∃ W, P.size = W := ⟨_, rfl⟩
  have HWW := Lib.hid hW
  clear hp hpk hoe hsz
  have HA : Below w.heap.size w (w.alloc zeroLaw) := (Below.refl _ _).alloc (Nat.le_refl _) _
  obtain ⟨wA, hwA⟩ : ∃ w', w.alloc zeroLaw = w' := ⟨_, rfl⟩
  have hbx : LBox wA w.heap.size (.slice none 0 0) (.slice none 0 0) := by rw [← hwA]; exact heap_at_new _ _
  rw [hwA] at HA
  unfold zeroLaw at hwA
  have hszz : w.heap.size < wA.heap.size := by rw [← hwA]; simp
  have H0 := Lib.hid (And.intro HA (And.intro hbx hszz))
  clear hbx HA hszz hW
  obtain ⟨i0, hi, hz0, hz1, hz2⟩ := info_parts Tryd.infoI
  obtain ⟨i1, hj, hy0, hy1, hy2⟩ := info_parts Tryd.infoSI
  go_enter Tryd.func4, Tryd.ntmps4
  go_wp2_with fail
  refine (l05Fair_any _ _).mono ?_
  rintro e w1 ⟨rfl, rfl⟩
  rw [HR.out]
  go_wp2_with fail
  refine (HPat.out _).mono ?_
  rintro e w1 ⟨rfl, rfl⟩
  rw [HPO.out]
  go_wp2_with fail
  refine (HNum.out _).mono ?_
  rintro e w1 ⟨rfl, rfl⟩
  have hni : (0 : Int) ≤ (n : Int) := by omega
  clear hwA
  go_wp2_with (at_make; refine wpList_make_full _ rfl _ _ 35 rfl w1.heap.size 22 i1 (.slice none 0 0) 1 Tryd.underlying35 hj hy0 hy1 _ _ _ _ sz rfl rfl rfl rfl ?c1 ?c2 ?c3 ?_)
  case c1 => rw [hy2]; omega
  case c2 => unfold maxLen; omega
  case c3 => exact Nat.le_refl _
  intro w2 hown2 hgrow2
  rw [nils_toList] at hown2
  have HM0 := Lib.hid (show OwM w1 w2 (mtO w1.heap.size sz (n + 1) [] (fun _ _ => 0) ++ []) from mt_start ⟨Owns.nil _ _, Below.refl _ _⟩ hown2 hgrow2)
  clear hown2 hgrow2
  obtain ⟨g0, hg0⟩ : ∃ x, w1.heap.size = x := ⟨_, rfl⟩
  rw [hg0] at HM0 ⊢
  clear hg0
  have hn1w : IntKind.i64.wrap ((n : Int) + 1) = (n : Int) + 1 := IntWalk.i64_in _ (by omega)
  have HZ := Lib.hid (zeros_toList (n + 1))
  have hsi : (0 : Int) < (sz : Int) := by omega
  go_wp2_with fail
  go_loopw [10] (fun i wr => ∃ gs : List Nat, gs.length ≤ sz ∧ i = .int .i64 (gs.length : Nat) ∧ Hid (OwM w1 wr (mtO g0 sz (n + 1) gs (fun _ _ => 0) ++ []))) (fun i _ => sz - (intOf i).toNat)
  case atStart => exact ⟨[], Nat.zero_le _, rfl, HM0⟩
  case round =>
    clear HM0
    obtain ⟨gs, hgs, rfl, HM⟩ := hrel
    by_cases hlt : gs.length < sz
    · have hki : (gs.length : Int) < (sz : Int) := by omega
      have hk0 : (0 : Int) ≤ (gs.length : Int) := by omega
      have hjw : IntKind.i64.wrap ((gs.length : Int) + 1) = (gs.length : Int) + 1 := IntWalk.i64_in _ (by omega)
      go_wp2_with (at_make; refine wpList_make_full _ rfl _ _ 22 rfl wr.heap.size 2 i0 (.int .i64 0) 1 Tryd.underlying22 hi hz0 hz1 _ _ _ _ (n + 1) rfl rfl ?cL ?cC ?c1 ?c2 ?c3 ?_)
      all_goals first | (push_cast; rfl) | (rw [hz2]; omega) | (unfold maxLen; omega) | exact Nat.le_refl _ | skip
      intro w3 hown3 hgrow3
      rw [HZ.out] at hown3
      have HM3 := Lib.hid (HM.out.ret ((Below.refl _ _).grown hgrow3 (Nat.le_refl _) (by simp)))
      have HPU := Lib.hid (mt_push HM.out hlt hown3 hgrow3)
      obtain ⟨q0, q1⟩ := HM3.out.gap hlt
      clear hown3 hgrow3
      go_wp2_with fail
      go_roundw
      case rel => exact ⟨gs ++ [wr.heap.size], by simp; omega, by rw [List.length_append]; go_num, HPU⟩
      case measure => simp [intOf]; omega
    · have hge : gs.length = sz := by omega
      have hki : ¬ (gs.length : Int) < (sz : Int) := by omega
      obtain ⟨nx, hnx⟩ : ∃ nx, prNx P.size own = nx := ⟨_, rfl⟩
      have HNX := Lib.hid hnx
      have HPV := Lib.hid (show ∀ t p, p ∈ stL nx (0, 0) t → p.1 < sz ∧ p.2 ≤ t from fun t p hp => by
        rw [← hnx] at hp
        have := pr_valid P.size own t p hp
        rw [HSZ.out] at this
        exact this)
      obtain ⟨q0, q1, q2⟩ := HM.out.rd (k := 0) (v := 0) (by omega) (by omega)
      obtain ⟨x0, hx0⟩ : ∃ x, gs.getD 0 0 = x := ⟨_, rfl⟩
      have HM1 := Lib.hid (show OwM w1 (wr.setCell ⟨x0, 0, none⟩ (.int .i64 1)) (mtO g0 sz (n + 1) gs (fun k v => ((ctR (stL nx (0, 0) 0) (k, v) : Nat) : Int)) ++ []) from by
        rw [← hx0]
        refine (HM.out.put (k := 0) (v := 0) (by omega) 1).congr fun k v _ _ => ?_
        show (if k = 0 ∧ v = 0 then (1 : Int) else 0) = ((@List.count _ instBEqOfDecidableEq (k, v) [(0, 0)] : Nat) : Int)
        by_cases e : k = 0 ∧ v = 0
        · obtain ⟨rfl, rfl⟩ := e
          rfl
        · rw [if_neg e]
          have h0 : @List.count _ instBEqOfDecidableEq (k, v) [((0 : Nat), (0 : Nat))] = 0 := @List.count_eq_zero_of_not_mem _ instBEqOfDecidableEq _ (k, v) _ (by simp; omega)
          rw [h0]; rfl)
      rw [hx0] at q0 q1 q2
      have hsz0 : (0 : Int) < (sz : Int) := by omega
      clear hx0 HM
      go_wp2_with fail
      go_loopw [11, 9] (fun i v wr => ∃ (t g : Nat) (gs : List Nat), t ≤ n ∧ gs.length = sz ∧ i = .int .i64 (t : Nat) ∧ v = .slice (some ⟨g, 0, none⟩) sz sz ∧ Hid (OwM w1 wr (mtO g sz (n + 1) gs (fun k v => ((ctR (stL nx (0, 0) t) (k, v) : Nat) : Int)) ++ []))) (fun i _ _ => n - (intOf i).toNat)
      case atStart => exact ⟨0, g0, gs, Nat.zero_le _, hge, rfl, rfl, HM1⟩
      case round =>
        clear HM1 q0 q1 q2
        obtain ⟨t, g, gs, ht, hgs, rfl, rfl, HM⟩ := hrel
        by_cases hlt : t < n
        · have hti : (t : Int) < (n : Int) := by omega
          have ht0 : (0 : Int) ≤ (t : Int) := by omega
          obtain ⟨L, hL⟩ : ∃ L, stL nx (0, 0) t = L := ⟨_, rfl⟩
          have HLL := Lib.hid hL
          rw [hL] at HM
          have HLV := Lib.hid (show ∀ p, p ∈ L → p.1 < sz ∧ p.2 ≤ t from fun p hp => HPV.out t p (by rw [hL]; exact hp))
          clear hL
          obtain ⟨M, hM⟩ : ∃ M : Nat → Nat → Int, (fun k v => ((ctR L (k, v) : Nat) : Int)) = M := ⟨_, rfl⟩
          have HMM := Lib.hid (show ∀ k v, M k v = ((ctR L (k, v) : Nat) : Int) from fun k v => by rw [← hM])
          rw [hM] at HM
          clear hM
          obtain ⟨i2, hj2, hy20, hy21, hy22⟩ := info_parts Tryd.infoSI
          go_wp2_with (at_make; go_loud (refine wpList_make_full _ rfl _ _ 35 rfl wr.heap.size 22 i2 (.slice none 0 0) 1 Tryd.underlying35 hj2 hy20 hy21 _ _ _ _ sz rfl rfl rfl rfl ?d1 ?d2 ?d3 ?_))
          all_goals first | (rw [hy22]; omega) | (unfold maxLen; omega) | exact Nat.le_refl _ | skip
          intro w2 hown2 hgrow2
          rw [nils_toList] at hown2
          have HN0 := Lib.hid (show OwM w1 w2 (mtO wr.heap.size sz (n + 1) [] (fun _ _ => 0) ++ (mtO g sz (n + 1) gs M ++ [])) from mt_start HM.out hown2 hgrow2)
          clear hown2 hgrow2 HM
          obtain ⟨g', hg'⟩ : ∃ x, wr.heap.size = x := ⟨_, rfl⟩
          rw [hg'] at HN0 ⊢
          clear hg'
          go_wp2_with fail
          go_loopw [13] (fun i wr => ∃ gs' : List Nat, gs'.length ≤ sz ∧ i = .int .i64 (gs'.length : Nat) ∧ Hid (OwM w1 wr (mtO g' sz (n + 1) gs' (fun _ _ => 0) ++ (mtO g sz (n + 1) gs M ++ [])))) (fun i _ => sz - (intOf i).toNat)
          case atStart => exact ⟨[], Nat.zero_le _, rfl, HN0⟩
          case round =>
            clear HN0
            obtain ⟨gs', hgs', rfl, HM⟩ := hrel
            by_cases hlt2 : gs'.length < sz
            · have hki : (gs'.length : Int) < (sz : Int) := by omega
              have hk0 : (0 : Int) ≤ (gs'.length : Int) := by omega
              have hjw : IntKind.i64.wrap ((gs'.length : Int) + 1) = (gs'.length : Int) + 1 := IntWalk.i64_in _ (by omega)
              obtain ⟨i3, hi3, hz30, hz31, hz32⟩ := info_parts Tryd.infoI
              go_wp2_with (at_make; refine wpList_make_full _ rfl _ _ 22 rfl wr.heap.size 2 i3 (.int .i64 0) 1 Tryd.underlying22 hi3 hz30 hz31 _ _ _ _ (n + 1) rfl rfl ?eL ?eC ?e1 ?e2 ?e3 ?_)
              all_goals first | (push_cast; rfl) | (rw [hz32]; omega) | (unfold maxLen; omega) | exact Nat.le_refl _ | skip
              intro w3 hown3 hgrow3
              rw [HZ.out] at hown3
              have HM3 := Lib.hid (HM.out.ret ((Below.refl _ _).grown hgrow3 (Nat.le_refl _) (by simp)))
              have HPU := Lib.hid (mt_push HM.out hlt2 hown3 hgrow3)
              obtain ⟨q0, q1⟩ := HM3.out.gap hlt2
              clear hown3 hgrow3
              go_wp2_with fail
              go_roundw
              case rel => exact ⟨gs' ++ [wr.heap.size], by simp; omega, by rw [List.length_append]; go_num, HPU⟩
              case measure => simp [intOf]; omega
            · have hge' : gs'.length = sz := by omega
              have hki : ¬ (gs'.length : Int) < (sz : Int) := by omega
              have HN1 := Lib.hid (show OwM w1 wr (mtO g' sz (n + 1) gs' (fun a b => ((doneN L (nx t) (lfR 0 0 0) (a, b) : Nat) : Int)) ++ (mtO g sz (n + 1) gs M ++ [])) from HM.out.congr fun a b _ _ => by
                rw [doneN_start L (nx t) _ (a, b) fun p _ c => lfR_start _]
                rfl)
              clear HM
              go_wp2_with fail
              go_loopw [14] (fun i wr => ∃ k : Nat, k ≤ sz ∧ i = .int .i64 (k : Nat) ∧ Hid (OwM w1 wr (mtO g' sz (n + 1) gs' (fun a b => ((doneN L (nx t) (lfR k 0 0) (a, b) : Nat) : Int)) ++ (mtO g sz (n + 1) gs M ++ [])))) (fun i _ => sz - (intOf i).toNat)
              case atStart => exact ⟨0, Nat.zero_le _, rfl, HN1⟩
              case round =>
                clear HN1
                obtain ⟨k, hk, rfl, HN⟩ := hrel
                have hk0 : (0 : Int) ≤ (k : Int) := by omega
                by_cases hk2 : k < sz
                · have hki : (k : Int) < (sz : Int) := by omega
                  go_wp2_with fail
                  go_loopw [15] (fun i wr => ∃ bit : Nat, bit ≤ 2 ∧ i = .int .i64 (bit : Nat) ∧ Hid (OwM w1 wr (mtO g' sz (n + 1) gs' (fun a b => ((doneN L (nx t) (lfR k bit 0) (a, b) : Nat) : Int)) ++ (mtO g sz (n + 1) gs M ++ [])))) (fun i _ => 2 - (intOf i).toNat)
                  case atStart => exact ⟨0, by omega, rfl, HN⟩
                  case round =>
                    clear HN
                    obtain ⟨bit, hbit, rfl, HN⟩ := hrel
                    by_cases hb2 : bit < 2
                    · have hbi : (bit : Int) < 2 := by omega
                      have hb0 : (0 : Int) ≤ (bit : Int) := by omega
                      obtain ⟨bt, hbt⟩ : ∃ bt : Bool, bit = bI bt := by
                        rcases (show bit = 0 ∨ bit = 1 by omega) with h | h
                        · exact ⟨false, h⟩
                        · exact ⟨true, h⟩
                      have HBT := Lib.hid hbt
                      clear hbt
                      obtain ⟨tq, hto⟩ : ∃ tq, (2 * k + bit) % sz = tq := ⟨_, rfl⟩
                      have htl : tq < sz := by rw [← hto]; exact Nat.mod_lt _ (by omega)
                      have hti2 : (tq : Int) < (sz : Int) := by omega
                      have hto0 : (0 : Int) ≤ (tq : Int) := by omega
                      have hw1 : IntKind.i64.wrap (2 * (k : Int)) = 2 * (k : Int) := IntWalk.i64_in _ (by omega)
                      have hw2 : IntKind.i64.wrap (2 * (k : Int) + (bit : Int)) = 2 * (k : Int) + (bit : Int) := IntWalk.i64_in _ (by omega)
                      have hrem : (2 * (k : Int) + (bit : Int)) % (sz : Int) = (tq : Int) := by rw [← hto]; push_cast; rfl
                      have hrem2 : (2 * (k : Int) + (bit : Int)).tmod (sz : Int) = (tq : Int) := by rw [Int.tmod_eq_emod_of_nonneg (by omega)]; exact hrem
                      have hs00 : ¬ (sz : Int) = 0 := by omega
                      have hs01 : ¬ (sz : Int) = -1 := by omega
                      have hpos : 0 ≤ 2 * (k : Int) + (bit : Int) := by omega
                      have htw : IntKind.i64.wrap ((t : Int) + 1) = (t : Int) + 1 := IntWalk.i64_in _ (by omega)
                      have hA3 : (P.size ≤ t + 1 ∧ tq = own) ∨ (P.size ≤ t + 1 ∧ ¬ tq = own) ∨ ¬ P.size ≤ t + 1 := by omega
                      rcases hA3 with hA | hA | hA
                      · have hcw : (P.size : Int) ≤ (t : Int) + 1 := by omega
                        have hco : (tq : Int) = (own : Int) := by omega
                        have hcb : ((tq : Int) == (own : Int)) = true := by rw [hco]; simp
                        clear hco
                        have HNT := Lib.hid (show ∀ pl, nx t (k, pl) bt = (tq, pl + 1) from fun pl => by
                          rw [← HNX.out]
                          unfold prNx
                          have e1 : (2 * k + (if bt = true then 1 else 0)) % 2 ^ P.size = tq := by rw [HSZ.out, ← hto, HBT.out]; rfl
                          simp only [e1]
                          rw [if_pos hA])
                        clear hA
                        go_wp2_with fail
                        go_loopw [18] (fun i wx => ∃ pl : Nat, pl + 1 ≤ n + 1 ∧ i = .int .i64 (pl : Nat) ∧ Hid (OwM w1 wx (mtO g' sz (n + 1) gs' (fun a b => ((doneN L (nx t) (lfR k bit pl) (a, b) : Nat) : Int)) ++ (mtO g sz (n + 1) gs M ++ [])))) (fun i _ => n + 1 - (intOf i).toNat)
                        case atStart => exact ⟨0, by omega, rfl, HN⟩
                        case round =>
                          clear HN
                          obtain ⟨pl, hpl, rfl, HQ⟩ := hrel
                          have hpl0 : (0 : Int) ≤ (pl : Int) := by omega
                          have hpl1 : (0 : Int) ≤ (pl : Int) + 1 := by omega
                          by_cases hle : pl + 1 ≤ n
                          · have hli : (pl : Int) + 1 ≤ (n : Int) := by omega
                            have hli2 : (pl : Int) + 1 < (n : Int) + 1 := by omega
                            have hli3 : (pl : Int) < (n : Int) + 1 := by omega
                            have hpw : IntKind.i64.wrap ((pl : Int) + 1) = (pl : Int) + 1 := IntWalk.i64_in _ (by omega)
                            have hpw2 : IntKind.i64.wrap (pl : Int) = (pl : Int) := IntWalk.i64_in _ (by omega)
                            have hpw3 : IntKind.i64.wrap ((pl : Int) + 1) = (pl : Int) + 1 := IntWalk.i64_in _ (by omega)
                            obtain ⟨a1, a2, a3⟩ := HQ.out.rd (k := tq) (v := pl + 1) (by omega) (by omega)
                            have HQ2 : OwM w1 wr (mtO g sz (n + 1) gs M ++ []) := HQ.out.sub (List.sublist_append_right _ _)
                            obtain ⟨b1, b2, _⟩ := HQ2.rd (k := k) (v := pl) (by omega) (by omega)
                            have hVA : doneN L (nx t) (lfR k bit pl) (tq, pl + 1) ≤ 2 ^ (t + 1) := by rw [← HLL.out]; exact doneN_le nx (0, 0) t _ _
                            have hVB : ctR L (k, pl) ≤ 2 ^ t := by rw [← HLL.out]; exact stL_count_le nx (0, 0) t _
                            have hv1 := pow_50s (show t + 1 ≤ 50 by omega)
                            have hv2 := pow_50s (show t ≤ 50 by omega)
                            rw [HMM.out] at b2
                            have HPT := Lib.hid (show OwM w1 (wr.setCell ⟨gs'.getD tq 0, pl + 1, none⟩ (.int .i64 (((doneN L (nx t) (lfR k bit pl) (tq, pl + 1) : Nat) : Int) + ((ctR L (k, pl) : Nat) : Int)))) (mtO g' sz (n + 1) gs' (fun a b => ((doneN L (nx t) (lfR k bit (pl + 1)) (a, b) : Nat) : Int)) ++ (mtO g sz (n + 1) gs M ++ [])) from
                              (HQ.out.put (k := tq) (v := pl + 1) (by omega) _).congr fun a b _ _ => by
                                have hl := lfR_step (L := L) (nx := nx t) k pl bt (a, b)
                                rw [HNT.out] at hl
                                rw [show bI bt = bit from HBT.out.symm] at hl
                                rw [hl]
                                by_cases e : a = tq ∧ b = pl + 1
                                · rw [if_pos e, e.1, e.2, if_pos rfl]; exact (Int.natCast_add _ _).symm
                                · rw [if_neg e, if_neg (fun h => e (by simp only [Prod.mk.injEq] at h; exact ⟨h.1.symm, h.2.symm⟩)), Nat.add_zero])
                            obtain ⟨VA, hVAe⟩ : ∃ v, doneN L (nx t) (lfR k bit pl) (tq, pl + 1) = v := ⟨_, rfl⟩
                            obtain ⟨VB, hVBe⟩ : ∃ v, ctR L (k, pl) = v := ⟨_, rfl⟩
                            obtain ⟨xa, hxa⟩ : ∃ v, gs'.getD tq 0 = v := ⟨_, rfl⟩
                            obtain ⟨xb, hxb⟩ : ∃ v, gs.getD k 0 = v := ⟨_, rfl⟩
                            rw [hVAe] at a2 hVA HPT
                            rw [hVBe] at b2 hVB HPT
                            rw [hxa] at a1 a2 a3 HPT
                            rw [hxb] at b1 b2
                            have hww : IntKind.i64.wrap ((VA : Int) + (VB : Int)) = (VA : Int) + (VB : Int) := IntWalk.i64_in _ (by omega)
                            try simp only [Nat.add_zero] at a1 a2 a3 HPT
                            clear HQ HQ2 hVAe hVBe hxa hxb hVA hVB hv1 hv2
                            go_wp2_with fail
                            go_region
                            all_goals
                              go_wp2_with fail
                              go_roundw
                              case rel => exact ⟨pl + 1, by omega, by go_num, Lib.hid (by first | exact HPT.out | exact HPT.out.drewN 1)⟩
                              case measure => simp [intOf]; omega
                          · have hli : ¬ (pl : Int) + 1 ≤ (n : Int) := by omega
                            have hpw : IntKind.i64.wrap ((pl : Int) + 1) = (pl : Int) + 1 := IntWalk.i64_in _ (by omega)
                            have hpw2 : IntKind.i64.wrap (pl : Int) = (pl : Int) := IntWalk.i64_in _ (by omega)
                            have HB := Lib.hid (show OwM w1 wr (mtO g' sz (n + 1) gs' (fun a b => ((doneN L (nx t) (lfR k (bit + 1) 0) (a, b) : Nat) : Int)) ++ (mtO g sz (n + 1) gs M ++ [])) from HQ.out.congr fun a b _ _ => by
                              rw [doneN_congr (l' := lfR k (bit + 1) 0) fun x hx => lfR_bit (by have := (HLV.out _ hx).2; omega)])
                            clear HQ
                            go_wp2_with fail
                            go_roundw
                            case rel => exact ⟨bit + 1, by omega, by go_num, HB⟩
                            case measure => simp [intOf]; omega
                      · have hcw : (P.size : Int) ≤ (t : Int) + 1 := by omega
                        have hco : ¬ (tq : Int) = (own : Int) := by omega
                        have hcb : ((tq : Int) == (own : Int)) = false := by rw [beq_eq_false_iff_ne]; exact hco
                        have HNT := Lib.hid (show ∀ pl, nx t (k, pl) bt = (tq, pl + 0) from fun pl => by
                          rw [← HNX.out]
                          unfold prNx
                          have e1 : (2 * k + (if bt = true then 1 else 0)) % 2 ^ P.size = tq := by rw [HSZ.out, ← hto, HBT.out]; rfl
                          simp only [e1]
                          rw [if_neg (fun h => hA.2 h.2)]; rfl)
                        clear hA
                        go_wp2_with fail
                        go_loopw [18] (fun i wx => ∃ pl : Nat, pl + 0 ≤ n + 1 ∧ i = .int .i64 (pl : Nat) ∧ Hid (OwM w1 wx (mtO g' sz (n + 1) gs' (fun a b => ((doneN L (nx t) (lfR k bit pl) (a, b) : Nat) : Int)) ++ (mtO g sz (n + 1) gs M ++ [])))) (fun i _ => n + 1 - (intOf i).toNat)
                        case atStart => exact ⟨0, by omega, rfl, HN⟩
                        case round =>
                          clear HN
                          obtain ⟨pl, hpl, rfl, HQ⟩ := hrel
                          have hpl0 : (0 : Int) ≤ (pl : Int) := by omega
                          have hpl1 : (0 : Int) ≤ (pl : Int) + 0 := by omega
                          by_cases hle : pl + 0 ≤ n
                          · have hli : (pl : Int) + 0 ≤ (n : Int) := by omega
                            have hli2 : (pl : Int) + 0 < (n : Int) + 1 := by omega
                            have hli3 : (pl : Int) < (n : Int) + 1 := by omega
                            have hpw : IntKind.i64.wrap ((pl : Int) + 0) = (pl : Int) + 0 := IntWalk.i64_in _ (by omega)
                            have hpw2 : IntKind.i64.wrap (pl : Int) = (pl : Int) := IntWalk.i64_in _ (by omega)
                            have hpw3 : IntKind.i64.wrap ((pl : Int) + 1) = (pl : Int) + 1 := IntWalk.i64_in _ (by omega)
                            obtain ⟨a1, a2, a3⟩ := HQ.out.rd (k := tq) (v := pl + 0) (by omega) (by omega)
                            have HQ2 : OwM w1 wr (mtO g sz (n + 1) gs M ++ []) := HQ.out.sub (List.sublist_append_right _ _)
                            obtain ⟨b1, b2, _⟩ := HQ2.rd (k := k) (v := pl) (by omega) (by omega)
                            have hVA : doneN L (nx t) (lfR k bit pl) (tq, pl + 0) ≤ 2 ^ (t + 1) := by rw [← HLL.out]; exact doneN_le nx (0, 0) t _ _
                            have hVB : ctR L (k, pl) ≤ 2 ^ t := by rw [← HLL.out]; exact stL_count_le nx (0, 0) t _
                            have hv1 := pow_50s (show t + 1 ≤ 50 by omega)
                            have hv2 := pow_50s (show t ≤ 50 by omega)
                            rw [HMM.out] at b2
                            have HPT := Lib.hid (show OwM w1 (wr.setCell ⟨gs'.getD tq 0, pl + 0, none⟩ (.int .i64 (((doneN L (nx t) (lfR k bit pl) (tq, pl + 0) : Nat) : Int) + ((ctR L (k, pl) : Nat) : Int)))) (mtO g' sz (n + 1) gs' (fun a b => ((doneN L (nx t) (lfR k bit (pl + 1)) (a, b) : Nat) : Int)) ++ (mtO g sz (n + 1) gs M ++ [])) from
                              (HQ.out.put (k := tq) (v := pl + 0) (by omega) _).congr fun a b _ _ => by
                                have hl := lfR_step (L := L) (nx := nx t) k pl bt (a, b)
                                rw [HNT.out] at hl
                                rw [show bI bt = bit from HBT.out.symm] at hl
                                rw [hl]
                                by_cases e : a = tq ∧ b = pl + 0
                                · rw [if_pos e, e.1, e.2, if_pos rfl]; exact (Int.natCast_add _ _).symm
                                · rw [if_neg e, if_neg (fun h => e (by simp only [Prod.mk.injEq] at h; exact ⟨h.1.symm, h.2.symm⟩)), Nat.add_zero])
                            obtain ⟨VA, hVAe⟩ : ∃ v, doneN L (nx t) (lfR k bit pl) (tq, pl + 0) = v := ⟨_, rfl⟩
                            obtain ⟨VB, hVBe⟩ : ∃ v, ctR L (k, pl) = v := ⟨_, rfl⟩
                            obtain ⟨xa, hxa⟩ : ∃ v, gs'.getD tq 0 = v := ⟨_, rfl⟩
                            obtain ⟨xb, hxb⟩ : ∃ v, gs.getD k 0 = v := ⟨_, rfl⟩
                            rw [hVAe] at a2 hVA HPT
                            rw [hVBe] at b2 hVB HPT
                            rw [hxa] at a1 a2 a3 HPT
                            rw [hxb] at b1 b2
                            have hww : IntKind.i64.wrap ((VA : Int) + (VB : Int)) = (VA : Int) + (VB : Int) := IntWalk.i64_in _ (by omega)
                            try simp only [Nat.add_zero] at a1 a2 a3 HPT
                            clear HQ HQ2 hVAe hVBe hxa hxb hVA hVB hv1 hv2
                            go_wp2_with fail
                            go_region
                            all_goals
                              go_wp2_with fail
                              go_roundw
                              case rel => exact ⟨pl + 1, by omega, by go_num, Lib.hid (by first | exact HPT.out | exact HPT.out.drewN 1)⟩
                              case measure => simp [intOf]; omega
                          · have hli : ¬ (pl : Int) + 0 ≤ (n : Int) := by omega
                            have hpw : IntKind.i64.wrap ((pl : Int) + 0) = (pl : Int) + 0 := IntWalk.i64_in _ (by omega)
                            have hpw2 : IntKind.i64.wrap (pl : Int) = (pl : Int) := IntWalk.i64_in _ (by omega)
                            have HB := Lib.hid (show OwM w1 wr (mtO g' sz (n + 1) gs' (fun a b => ((doneN L (nx t) (lfR k (bit + 1) 0) (a, b) : Nat) : Int)) ++ (mtO g sz (n + 1) gs M ++ [])) from HQ.out.congr fun a b _ _ => by
                              rw [doneN_congr (l' := lfR k (bit + 1) 0) fun x hx => lfR_bit (by have := (HLV.out _ hx).2; omega)])
                            clear HQ
                            go_wp2_with fail
                            go_roundw
                            case rel => exact ⟨bit + 1, by omega, by go_num, HB⟩
                            case measure => simp [intOf]; omega
                      · have hcw : ¬ (P.size : Int) ≤ (t : Int) + 1 := by omega
                        have HNT := Lib.hid (show ∀ pl, nx t (k, pl) bt = (tq, pl + 0) from fun pl => by
                          rw [← HNX.out]
                          unfold prNx
                          have e1 : (2 * k + (if bt = true then 1 else 0)) % 2 ^ P.size = tq := by rw [HSZ.out, ← hto, HBT.out]; rfl
                          simp only [e1]
                          rw [if_neg (fun h => hA h.1)]; rfl)
                        clear hA
                        go_wp2_with fail
                        go_loopw [18] (fun i wx => ∃ pl : Nat, pl + 0 ≤ n + 1 ∧ i = .int .i64 (pl : Nat) ∧ Hid (OwM w1 wx (mtO g' sz (n + 1) gs' (fun a b => ((doneN L (nx t) (lfR k bit pl) (a, b) : Nat) : Int)) ++ (mtO g sz (n + 1) gs M ++ [])))) (fun i _ => n + 1 - (intOf i).toNat)
                        case atStart => exact ⟨0, by omega, rfl, HN⟩
                        case round =>
                          clear HN
                          obtain ⟨pl, hpl, rfl, HQ⟩ := hrel
                          have hpl0 : (0 : Int) ≤ (pl : Int) := by omega
                          have hpl1 : (0 : Int) ≤ (pl : Int) + 0 := by omega
                          by_cases hle : pl + 0 ≤ n
                          · have hli : (pl : Int) + 0 ≤ (n : Int) := by omega
                            have hli2 : (pl : Int) + 0 < (n : Int) + 1 := by omega
                            have hli3 : (pl : Int) < (n : Int) + 1 := by omega
                            have hpw : IntKind.i64.wrap ((pl : Int) + 0) = (pl : Int) + 0 := IntWalk.i64_in _ (by omega)
                            have hpw2 : IntKind.i64.wrap (pl : Int) = (pl : Int) := IntWalk.i64_in _ (by omega)
                            have hpw3 : IntKind.i64.wrap ((pl : Int) + 1) = (pl : Int) + 1 := IntWalk.i64_in _ (by omega)
                            obtain ⟨a1, a2, a3⟩ := HQ.out.rd (k := tq) (v := pl + 0) (by omega) (by omega)
                            have HQ2 : OwM w1 wr (mtO g sz (n + 1) gs M ++ []) := HQ.out.sub (List.sublist_append_right _ _)
                            obtain ⟨b1, b2, _⟩ := HQ2.rd (k := k) (v := pl) (by omega) (by omega)
                            have hVA : doneN L (nx t) (lfR k bit pl) (tq, pl + 0) ≤ 2 ^ (t + 1) := by rw [← HLL.out]; exact doneN_le nx (0, 0) t _ _
                            have hVB : ctR L (k, pl) ≤ 2 ^ t := by rw [← HLL.out]; exact stL_count_le nx (0, 0) t _
                            have hv1 := pow_50s (show t + 1 ≤ 50 by omega)
                            have hv2 := pow_50s (show t ≤ 50 by omega)
                            rw [HMM.out] at b2
                            have HPT := Lib.hid (show OwM w1 (wr.setCell ⟨gs'.getD tq 0, pl + 0, none⟩ (.int .i64 (((doneN L (nx t) (lfR k bit pl) (tq, pl + 0) : Nat) : Int) + ((ctR L (k, pl) : Nat) : Int)))) (mtO g' sz (n + 1) gs' (fun a b => ((doneN L (nx t) (lfR k bit (pl + 1)) (a, b) : Nat) : Int)) ++ (mtO g sz (n + 1) gs M ++ [])) from
                              (HQ.out.put (k := tq) (v := pl + 0) (by omega) _).congr fun a b _ _ => by
                                have hl := lfR_step (L := L) (nx := nx t) k pl bt (a, b)
                                rw [HNT.out] at hl
                                rw [show bI bt = bit from HBT.out.symm] at hl
                                rw [hl]
                                by_cases e : a = tq ∧ b = pl + 0
                                · rw [if_pos e, e.1, e.2, if_pos rfl]; exact (Int.natCast_add _ _).symm
                                · rw [if_neg e, if_neg (fun h => e (by simp only [Prod.mk.injEq] at h; exact ⟨h.1.symm, h.2.symm⟩)), Nat.add_zero])
                            obtain ⟨VA, hVAe⟩ : ∃ v, doneN L (nx t) (lfR k bit pl) (tq, pl + 0) = v := ⟨_, rfl⟩
                            obtain ⟨VB, hVBe⟩ : ∃ v, ctR L (k, pl) = v := ⟨_, rfl⟩
                            obtain ⟨xa, hxa⟩ : ∃ v, gs'.getD tq 0 = v := ⟨_, rfl⟩
                            obtain ⟨xb, hxb⟩ : ∃ v, gs.getD k 0 = v := ⟨_, rfl⟩
                            rw [hVAe] at a2 hVA HPT
                            rw [hVBe] at b2 hVB HPT
                            rw [hxa] at a1 a2 a3 HPT
                            rw [hxb] at b1 b2
                            have hww : IntKind.i64.wrap ((VA : Int) + (VB : Int)) = (VA : Int) + (VB : Int) := IntWalk.i64_in _ (by omega)
                            try simp only [Nat.add_zero] at a1 a2 a3 HPT
                            clear HQ HQ2 hVAe hVBe hxa hxb hVA hVB hv1 hv2
                            go_wp2_with fail
                            go_region
                            all_goals
                              go_wp2_with fail
                              go_roundw
                              case rel => exact ⟨pl + 1, by omega, by go_num, Lib.hid (by first | exact HPT.out | exact HPT.out.drewN 1)⟩
                              case measure => simp [intOf]; omega
                          · have hli : ¬ (pl : Int) + 0 ≤ (n : Int) := by omega
                            have hpw : IntKind.i64.wrap ((pl : Int) + 0) = (pl : Int) + 0 := IntWalk.i64_in _ (by omega)
                            have hpw2 : IntKind.i64.wrap (pl : Int) = (pl : Int) := IntWalk.i64_in _ (by omega)
                            have HB := Lib.hid (show OwM w1 wr (mtO g' sz (n + 1) gs' (fun a b => ((doneN L (nx t) (lfR k (bit + 1) 0) (a, b) : Nat) : Int)) ++ (mtO g sz (n + 1) gs M ++ [])) from HQ.out.congr fun a b _ _ => by
                              rw [doneN_congr (l' := lfR k (bit + 1) 0) fun x hx => lfR_bit (by have := (HLV.out _ hx).2; omega)])
                            clear HQ
                            go_wp2_with fail
                            go_roundw
                            case rel => exact ⟨bit + 1, by omega, by go_num, HB⟩
                            case measure => simp [intOf]; omega
                    · obtain rfl : bit = 2 := by omega
                      have hbi : ¬ ((2 : Nat) : Int) < 2 := by omega
                      have HB := Lib.hid (show OwM w1 wr (mtO g' sz (n + 1) gs' (fun a b => ((doneN L (nx t) (lfR (k + 1) 0 0) (a, b) : Nat) : Int)) ++ (mtO g sz (n + 1) gs M ++ [])) from HN.out.congr fun a b _ _ => by
                        rw [doneN_congr (l' := lfR (k + 1) 0 0) fun x hx => lfR_row])
                      clear HN
                      go_wp2_with fail
                      go_roundw
                      case rel => exact ⟨k + 1, by omega, by go_num, HB⟩
                      case measure => simp [intOf]; omega
                · obtain rfl : k = sz := by omega
                  have hki : ¬ (k : Int) < (k : Int) := by omega
                  have HB := Lib.hid (show OwM w1 wr (mtO g' k (n + 1) gs' (fun a b => ((ctR (stL nx (0, 0) (t + 1)) (a, b) : Nat) : Int)) ++ []) from
                    OwM.sub (HN.out.congr fun a b _ _ => by rw [← HLL.out, ctR_end nx t k (a, b) fun p hp => (HPV.out t p hp).1]) (List.Sublist.append (List.Sublist.refl _) (List.nil_sublist _)))
                  clear HN
                  go_wp2_with fail
                  go_roundw
                  case rel => exact ⟨t + 1, g', gs', by omega, hge', by go_num, rfl, HB⟩
                  case measure => simp [intOf]; omega
        · obtain rfl : t = n := by omega
          have hti : ¬ (t : Int) < (t : Int) := by omega
          obtain ⟨L, hL⟩ : ∃ L, stL nx (0, 0) t = L := ⟨_, rfl⟩
          have HLL := Lib.hid hL
          rw [hL] at HM
          have HLV := Lib.hid (show ∀ p, p ∈ L → p.1 < sz ∧ p.2 ≤ t from fun p hp => HPV.out t p (by rw [hL]; exact hp))
          have HLN := Lib.hid (show L.length = 2 ^ t by rw [← hL]; exact stL_len nx (0, 0) t)
          have HCR := Lib.hid (show cntR P.size own t = fnR (t + 1) (fun v => ((L.countP (fun s => s.2 == v) : Nat) : Int)) by unfold cntR fnR; rw [HNX.out, hL])
          clear hL
          obtain ⟨M, hM⟩ : ∃ M : Nat → Nat → Int, (fun k v => ((ctR L (k, v) : Nat) : Int)) = M := ⟨_, rfl⟩
          have HMM := Lib.hid (show ∀ k v, M k v = ((ctR L (k, v) : Nat) : Int) from fun k v => by rw [← hM])
          rw [hM] at HM
          clear hM
          obtain ⟨i4, hi4, hz40, hz41, hz42⟩ := info_parts Tryd.infoI
          go_wp2_with (at_make; refine wpList_make_full _ rfl _ _ 22 rfl wr.heap.size 2 i4 (.int .i64 0) 1 Tryd.underlying22 hi4 hz40 hz41 _ _ _ _ (t + 1) rfl rfl ?fL ?fC ?f1 ?f2 ?f3 ?_)
          all_goals first | (push_cast; rfl) | (rw [hz42]; omega) | omega | (unfold maxLen; omega) | exact Nat.le_refl _ | skip
          intro w3 hown3 hgrow3
          rw [HZ.out] at hown3
          have HC0 := Lib.hid (show OwM w1 w3 (cnO wr.heap.size (t + 1) (fun u => ((markN L (lfC 0 0) (fun s => s.2 == u) : Nat) : Int)) :: (mtO g sz (t + 1) gs M ++ [])) from (cn_start HM.out hown3 hgrow3).cnCongr fun v _ => by rw [markN_start _ _ _ fun p _ => lfC_start p]; rfl)
          clear hown3 hgrow3 HM
          obtain ⟨c, hc⟩ : ∃ x, wr.heap.size = x := ⟨_, rfl⟩
          rw [hc] at HC0 ⊢
          clear hc
          go_wp2_with fail
          go_loopw [20] (fun i wr => ∃ k : Nat, k ≤ sz ∧ i = .int .i64 (k : Nat) ∧ Hid (OwM w1 wr (cnO c (t + 1) (fun u => ((markN L (lfC k 0) (fun s => s.2 == u) : Nat) : Int)) :: (mtO g sz (t + 1) gs M ++ [])))) (fun i _ => sz - (intOf i).toNat)
          case atStart => exact ⟨0, Nat.zero_le _, rfl, HC0⟩
          case round =>
            clear HC0
            obtain ⟨k, hk, rfl, HC⟩ := hrel
            have hk0 : (0 : Int) ≤ (k : Int) := by omega
            by_cases hk2 : k < sz
            · have hki : (k : Int) < (sz : Int) := by omega
              have hkw : IntKind.i64.wrap ((k : Int) + 1) = (k : Int) + 1 := IntWalk.i64_in _ (by omega)
              go_wp2_with fail
              go_loopw [21] (fun i wx => ∃ v : Nat, v ≤ t + 1 ∧ i = .int .i64 (v : Nat) ∧ Hid (OwM w1 wx (cnO c (t + 1) (fun u => ((markN L (lfC k v) (fun s => s.2 == u) : Nat) : Int)) :: (mtO g sz (t + 1) gs M ++ [])))) (fun i _ => t + 1 - (intOf i).toNat)
              case atStart => exact ⟨0, Nat.zero_le _, rfl, HC⟩
              case round =>
                clear HC
                obtain ⟨v, hv, rfl, HC⟩ := hrel
                have hv0 : (0 : Int) ≤ (v : Int) := by omega
                by_cases hv2 : v ≤ t
                · have hvi : (v : Int) ≤ (t : Int) := by omega
                  have hvi2 : (v : Int) < (t : Int) + 1 := by omega
                  have hvw : IntKind.i64.wrap ((v : Int) + 1) = (v : Int) + 1 := IntWalk.i64_in _ (by omega)
                  obtain ⟨a2, a3⟩ := HC.out.cnRd (v := v) (by omega)
                  have HQ2 : OwM w1 wr (mtO g sz (t + 1) gs M ++ []) := HC.out.sub (List.sublist_cons_self _ _)
                  obtain ⟨b1, b2, _⟩ := HQ2.rd (k := k) (v := v) (by omega) (by omega)
                  rw [HMM.out] at b2
                  have hVA : markN L (lfC k v) (fun s => s.2 == v) ≤ 2 ^ t := by rw [← HLN.out]; exact markN_le _ _ _
                  have hVB : ctR L (k, v) ≤ 2 ^ t := by rw [← HLL.out]; exact stL_count_le nx (0, 0) t _
                  have hv1 := pow_50s (show t ≤ 50 by omega)
                  have HPT := Lib.hid (show OwM w1 (wr.setCell ⟨c, v, none⟩ (.int .i64 (((markN L (lfC k v) (fun s => s.2 == v) : Nat) : Int) + ((ctR L (k, v) : Nat) : Int)))) (cnO c (t + 1) (fun u => ((markN L (lfC k (v + 1)) (fun s => s.2 == u) : Nat) : Int)) :: (mtO g sz (t + 1) gs M ++ [])) from (HC.out.cnPut v _).cnCongr fun u _ => lfC_put k v u)
                  obtain ⟨VA, hVAe⟩ : ∃ x, markN L (lfC k v) (fun s => s.2 == v) = x := ⟨_, rfl⟩
                  obtain ⟨VB, hVBe⟩ : ∃ x, ctR L (k, v) = x := ⟨_, rfl⟩
                  obtain ⟨xb, hxb⟩ : ∃ x, gs.getD k 0 = x := ⟨_, rfl⟩
                  rw [hVAe] at a2 hVA HPT
                  rw [hVBe] at b2 hVB HPT
                  rw [hxb] at b1 b2
                  have hww : IntKind.i64.wrap ((VA : Int) + (VB : Int)) = (VA : Int) + (VB : Int) := IntWalk.i64_in _ (by omega)
                  clear HC HQ2 hVAe hVBe hxb hVA hVB hv1
                  go_wp2_with fail
                  go_region
                  all_goals
                    go_wp2_with fail
                    go_roundw
                    case rel => exact ⟨v + 1, by omega, by go_num, Lib.hid (by first | exact HPT.out | exact HPT.out.drewN 1)⟩
                    case measure => simp [intOf]; omega
                · have hve : v = t + 1 := by omega
                  have hvi : ¬ (v : Int) ≤ (t : Int) := by omega
                  have HB := Lib.hid (show OwM w1 wr (cnO c (t + 1) (fun u => ((markN L (lfC (k + 1) 0) (fun s => s.2 == u) : Nat) : Int)) :: (mtO g sz (t + 1) gs M ++ [])) from HC.out.cnCongr fun u _ => by
                    rw [markN_congr (l' := lfC (k + 1) 0) fun x hx => lfC_row (by have := (HLV.out _ hx).2; omega)])
                  clear HC hve
                  go_wp2_with fail
                  go_roundw
                  case rel => exact ⟨k + 1, by omega, by go_num, HB⟩
                  case measure => simp [intOf]; omega
            · obtain rfl : k = sz := by omega
              have hki : ¬ (k : Int) < (k : Int) := by omega
              have HE := Lib.hid (show IsInts wr (some ⟨c, 0, none⟩) (t + 1) (cntR P.size own t) by
                rw [HCR.out]
                exact (HC.out.cnCongr (F' := fun v => ((L.countP (fun s => s.2 == v) : Nat) : Int)) fun u _ => by rw [markN_end _ _ _ fun p hp => lfC_end (HLV.out p hp).1]).cnInts)
              have HBF := Lib.hid (show ∀ i, i < t + 1 → (cntR P.size own t).getD i 0 ≤ 1000000000000000000 from fun i hi => by
                rw [HCR.out, fnR_at hi]
                have h1 : L.countP (fun s => s.2 == i) ≤ L.length := List.countP_le_length
                have h2 := HLN.out
                have h3 := pow_50s (show t ≤ 50 by omega)
                omega)
              have hp := pow_cast t h2
              have hp0 : 0 < 2 ^ t := Nat.two_pow_pos t
              have hp1 := pow_50s h2
              obtain ⟨PW, hPW⟩ : ∃ PW, 2 ^ t = PW := ⟨_, rfl⟩
              have HPW := Lib.hid hPW
              rw [hPW] at hp hp0 hp1
              clear hPW
              go_wp2_with fail
              refine (l05Counted_any _ _ _ (cntR P.size own t) PW _ HE.out (by omega) hp0 (by omega) (fun i hi => HBF.out i hi)).mono ?_
              rintro e w5 ⟨V2, C2, rfl, hl, hb⟩
              rw [← HPW.out] at hl
              obtain ⟨a1, c1, rfl⟩ := own_shape hl.val
              obtain ⟨a2, c2, rfl⟩ := own_shape hl.cha
              have hbA : Below w1.heap.size w1 w5 := bthen HC.out.2 hb
              obtain ⟨q1, q2, q3, q4⟩ := pair_cells (LBox.below H0.out.2.1 hbA)
              have hr : w.heap.size < wr.heap.size := Nat.lt_of_lt_of_le H0.out.2.2 HC.out.2.size
              have HF := Lib.hid (And.intro ((law_box hl hr).mono (Nat.le_of_lt hr)) (below_box (wA := w1) (bthen H0.out.1 hbA) (Nat.le_refl _) (u := .slice a1 (lvT 0 (cntR P.size own t) (t + 1)).length c1) (v := .slice a2 (lvT 0 (cntR P.size own t) (t + 1)).length c2)))
              clear hl hb hbA hr
              go_wp2_with fail
              refine bodyPost_ret (v := .tuple #[.agg #[.slice a1 _ c1, .slice a2 _ c2], .bool true]) (by simp [results, Tryd.results4, go_sem, *]) rfl ⟨_, _, rfl, HF.out.1, HF.out.2⟩
end Go.Proofs.YtlckamnadddlmaaDoor

import Derived.Test.YtaneocedklnajaaGreatJlI
import Derived.Test.YtaneocedklnajaaGreatLevX
/- The reference's gathering of values and chances: the walk. Conditions: few pairs, no value comes more often than 64 times. -/
namespace Go.Proofs.YtaneocedklnajaaGreat
open Go.RowKit
set_option linter.unusedVariables false

def gOk (pv : Nat → Int) (pr : Nat → Rat) (M : Nat) : Bool := fitT (fun k => gS pv pr ((setT pv M).getD k 0) M) (setT pv M).length && lawOk (setT pv M) (flR (fun k => gS pv pr ((setT pv M).getD k 0) M) (setT pv M).length) (setT pv M).length (setT pv M).length
theorem idxT_pre {pv : Nat → Int} {j : Int} {t : Nat} : ∀ {M : Nat}, t ≤ M → ∃ r, idxT pv j M = idxT pv j t ++ r
  | 0, h => by
    obtain rfl : t = 0 := by omega
    exact ⟨[], by simp⟩
  | M + 1, h => by
    by_cases e : t = M + 1
    · subst e; exact ⟨[], by simp⟩
    · obtain ⟨r, hr⟩ := @idxT_pre pv j t M (by omega)
      by_cases hp : pv M = j
      · exact ⟨r ++ [M], by rw [idxT_yes hp, hr, List.append_assoc]⟩
      · exact ⟨r, by rw [idxT_no hp, hr]⟩
theorem idxT_at {pv : Nat → Int} {j : Int} {t M : Nat} (ht : t < M) (h : pv t = j) : (idxT pv j M).getD (idxT pv j t).length 0 = t := by
  obtain ⟨r, hr⟩ := @idxT_pre pv j (t + 1) M ht
  rw [hr, idxT_yes h]
  simp [List.getD]
theorem take_more {l : List Int} {k : Nat} (h : k < l.length) : l.take (k + 1) = l.take k ++ [l.getD k 0] := by
  rw [getD_eq _ _ h]; exact List.take_succ_eq_append_getElem h
theorem LO.more {w wr : World} {b : Nat} {K : List (Nat × Obj)} {V C V' C' : Value} {nv nc : Nat} {vs fs : List Int} (h : LO w wr b K V C V' C' nv nc vs fs) {g : Nat} {o : Obj} (h1 : wr.heap[g]? = some o) (h2 : V'.ownBlock ≠ some g) (h3 : C'.ownBlock ≠ some g) (h4 : g ≠ b) : LO w wr b (K ++ [(g, o)]) V C V' C' nv nc vs fs := by
  refine ⟨h.box, fun x hx => ?_, h.val, h.cha, h.dis, h.bel, h.nv, h.nc, h.hb⟩
  rcases List.mem_append.1 hx with hx | hx
  · exact h.keep x hx
  · rw [List.mem_singleton] at hx
    subst hx
    exact ⟨h1, h2, h3, h4⟩
theorem IsInts.heap {w w' : World} {g n : Nat} {zs : List Int} (h : IsInts w (some ⟨g, 0, none⟩) n zs) (e : w'.heap[g]? = w.heap[g]?) : IsInts w' (some ⟨g, 0, none⟩) n zs := by
  refine ⟨h.1, fun j hj => ?_⟩
  obtain ⟨b, off, e1, c⟩ := h.2 j hj
  cases e1
  exact ⟨g, 0, rfl, by rw [cell_heap e]; exact c⟩
theorem off_old {w wr : World} {T sz n l N : Nat} {v : Value} {xs : List Value} {a : Option Addr} (h : wr.ownsRow w.heap.size T sz v n xs) (ha : B30.IsBig w a l N) : B30.Off a l v := by
  intro hl g off e e2
  have := (h.lt g e2).1
  obtain ⟨g', off', e', c⟩ := ha.rd.2 0 (by omega)
  rw [e] at e'
  cases e'
  have := World.block_lt_of_cell? w _ c
  simp at this
  omega
set_option maxRecDepth 100000 in
set_option maxHeartbeats 6400000 in
theorem gather_any (a1 : Option Addr) (M c1 : Nat) (zs : List Int) (a2 : Option Addr) (c2 : Nat) (pv : Nat → Int) (pr : Nat → Rat) (w : World) (hM0 : 0 < M) (hM : M ≤ 4096) (h1 : IsInts w a1 M zs) (hz : ∀ t, t < M → zs.getD t 0 = pv t) (h2 : B30.WvL w a2 M pr 180) (hs : ∀ j T, T ≤ M → (idxT pv j T).length ≤ 64)
    (ok : Bool) (RV RF : List Int) (hok : gOk pv pr M = ok) (hrv : (if ok then setT pv M else []) = RV) (hrf : (if ok then flR (fun k => gS pv pr ((setT pv M).getD k 0) M) (setT pv M).length else []) = RF) :
    Calls Tryz.prog 29 #[.slice a1 M c1, .slice a2 M c2] w (RetLaw w ok RV RF) := by
  have H0 := Lib.hid (lo_start w)
  have HX := Lib.hid (And.intro h1 (And.intro hz (And.intro h2 hs)))
  have HRES := Lib.hid (And.intro hok (And.intro hrv hrf))
  have hz0 : ∀ wx : World, LawAt wx w.heap.size (.slice none 0 0) (.slice none 0 0) [] [] := fun wx => ⟨⟨rfl, Or.inl ⟨rfl, rfl⟩⟩, ⟨rfl, Or.inl ⟨rfl, rfl⟩⟩, Or.inl rfl⟩
  have HZ := Lib.hid hz0
  have HNO0 := Lib.hid (show gOk pv pr M = false → ok = false ∧ RV = [] ∧ RF = [] from fun hk => by
    rw [hok] at hk
    subst hk
    exact ⟨rfl, hrv.symm, hrf.symm⟩)
  have hs0 : 0 < (setT pv M).length := by
    have : pv 0 ∈ setT pv M := mem_setT.2 ⟨0, hM0, rfl⟩
    exact List.length_pos_of_mem this
  have hsl : (setT pv M).length ≤ 4096 := Nat.le_trans (setT_len pv M) hM
  clear h1 hz h2 hs hok hrv hrf hz0
  go_enter Tryz.func29, Tryz.ntmps29
  go_wp2_with fail
  obtain ⟨b, hb⟩ : ∃ b, w.heap.size + 1 = b := ⟨_, rfl⟩
  obtain ⟨wA, hwA⟩ : ∃ w', ((w.alloc (.cells #[.slice none 0 0, .slice none 0 0] 29)).alloc (.cells #[.slice none 0 0, .slice none 0 0] 29)) = w' := ⟨_, rfl⟩
  have hszA : wA.heap.size = b + 1 := by rw [← hwA, ← hb]; simp
  rw [hb, hwA] at H0
  rw [hwA]
  try rw [hb]
  have HB := Lib.hid (And.intro hb hszA)
  clear hwA hb hszA
  obtain ⟨g1, o1, rfl, _⟩ := HX.out.1.at hM0
  obtain ⟨g3, o3, _, _, _, _, _, _, _, _, _, _, _, _, rfl, _⟩ := HX.out.2.2.1 0 hM0
  have HS0 := Lib.hid (show (wA.alloc (.cells #[] 2)).ownsRow wA.heap.size 2 1 (.slice (some ⟨wA.heap.size, 0, none⟩) 0 0) 0 [] ∧ Below wA.heap.size wA (wA.alloc (.cells #[] 2)) from
    ⟨World.ownsRow_lit wA #[] 0 (Nat.le_refl _) (by decide) rfl, (Below.refl _ _).alloc (Nat.le_refl _) _⟩)
  have hszA2 := HB.out.2
  obtain ⟨wB, hwB⟩ : ∃ w', wA.alloc (.cells #[] 2) = w' := ⟨_, rfl⟩
  rw [hwB] at HS0 ⊢
  rw [hszA2] at HS0
  clear hwB
  have HS1 := Lib.hid (show wB.ownsRow (b + 1) 2 1 (.slice (some ⟨b + 1, 0, none⟩) (setT pv 0).length 0) (setT pv 0).length ((setT pv 0).map (Value.int .i64)) ∧ Below wA.heap.size wA wB from ⟨HS0.out.1, by rw [hszA2]; exact HS0.out.2⟩)
  clear HS0 hszA2
  go_loopw [8, 7] (fun i v wr => ∃ (t : Nat) (a : Option Addr) (c : Nat), t ≤ M ∧ i = .int .i64 (t : Nat) ∧ v = .slice a (setT pv t).length c ∧ Hid (wr.ownsRow (b + 1) 2 1 (.slice a (setT pv t).length c) (setT pv t).length ((setT pv t).map (Value.int .i64)) ∧ Below wA.heap.size wA wr)) (fun i _ _ => M - (intOf i).toNat)
  case atStart => exact ⟨0, _, _, Nat.zero_le _, rfl, rfl, HS1⟩
  case round =>
    clear HS1
    obtain ⟨t, aS, cS, htM, rfl, rfl, HS⟩ := hrel
    by_cases hlt : t < M
    · have ht0 : (0:Int) ≤ (t:Int) := by omega
      have htl : (t:Int) < (M:Int) := by omega
      have hbw := bthen H0.out.bel HS.out.2
      obtain ⟨gy, oy, hay, hcy⟩ := (HX.out.1.below hbw).at hlt
      cases hay
      have hyz := HX.out.2.1 t hlt
      have HP := Lib.hid (fun x => l00Put_any aS (setT pv t).length cS (setT pv t) x wr (Nat.le_trans (setT_len pv t) (by omega)) (IsInts.of_own HS.out.1))
      obtain ⟨y, hy⟩ : ∃ y, zs.getD t 0 = y := ⟨_, rfl⟩
      rw [hy] at hcy hyz
      have hst : setT pv (t + 1) = putL (setT pv t) y := by rw [hyz]; rfl
      obtain ⟨T0, hT0⟩ : ∃ T0, setT pv t = T0 := ⟨_, rfl⟩
      rw [hT0] at HS HP hst ⊢
      have HST := Lib.hid hst
      clear hst hT0 hyz hy hbw
      obtain ⟨ln, hln⟩ : ∃ ln, T0.length = ln := ⟨_, rfl⟩
      rw [hln] at HS HP ⊢
      clear hln
      go_wp2_with fail
      refine (HP.out y).mono ?_
      rintro e w3 ⟨a', c', rfl, hown, hb3⟩
      have HS3 := Lib.hid (show w3.ownsRow (b + 1) 2 1 (.slice a' (setT pv (t + 1)).length c') (setT pv (t + 1)).length ((setT pv (t + 1)).map (Value.int .i64)) ∧ Below wA.heap.size wA w3 from by
        rw [HST.out]
        exact ⟨own_mono hown (by have := HS.out.2.size; have := HB.out.2; omega), bthen HS.out.2 hb3⟩)
      rw [← HST.out]
      clear hown hb3 hcy
      go_wp2_with fail
      go_roundw
      case rel => exact ⟨t + 1, _, _, by omega, by go_num, rfl, HS3⟩
      case measure => simp [intOf]; omega
    · obtain rfl : t = M := by omega
      have htl : ¬ (t:Int) < (t:Int) := by omega
      obtain ⟨VS, hVS⟩ : ∃ VS, setT pv t = VS := ⟨_, rfl⟩
      obtain ⟨R, hR⟩ : ∃ R : Nat → Rat, (fun k => gS pv pr ((setT pv t).getD k 0) t) = R := ⟨_, rfl⟩
      have HRK := Lib.hid (show ∀ k, R k = gS pv pr (VS.getD k 0) t from fun k => by rw [← hR, hVS])
      have HGO := Lib.hid (show gOk pv pr t = (fitT R VS.length && lawOk VS (flR R VS.length) VS.length VS.length) by unfold gOk; rw [hR, hVS])
      have HRES2 := Lib.hid HRES.out
      rw [hR, hVS] at HRES2
      rw [hVS] at HS hs0 hsl ⊢
      clear hVS hR
      obtain ⟨s, hsz⟩ : ∃ s, VS.length = s := ⟨_, rfl⟩
      have HSZ := Lib.hid hsz
      rw [hsz] at HS hs0 hsl HGO HRES2 ⊢
      clear hsz
      obtain ⟨_, h00⟩ := HS.out.1
      rcases h00 with ⟨_, h01⟩ | ⟨g, cap, cur, e1, hbg, hg, hnc, hcm, hcs, htk⟩
      · omega
      · cases e1
        have HL0 := Lib.hid (((H0.out.below HS.out.2).more hg (by simp [Value.ownBlock]) (by simp [Value.ownBlock]) (show g ≠ b by omega)))
        have HGX := Lib.hid (show ∀ wx : World, wx.heap[g]? = some (.cells cur 2 (0, 0)) → IsInts wx (some ⟨g, 0, none⟩) s VS from fun wx hx => by
          have := IsInts.of_own HS.out.1
          exact this.heap (hx.trans hg.symm))
        clear hbg hg hnc hcm hcs htk HS HRES
        obtain ⟨o, ho⟩ : ∃ o : Obj, .cells cur 2 (0, 0) = o := ⟨_, rfl⟩
        rw [ho] at HL0 HGX
        clear ho
        go_wp2_with fail
        go_loopw [9] (fun i wx => ∃ (k : Nat) (V C : Value), k ≤ s ∧ i = .int .i64 (k : Nat) ∧ Hid (∀ q, q < k → fitR (R q) = true) ∧ Hid (LO w wx b ([(w.heap.size, .cells #[.slice none 0 0, .slice none 0 0] 29)] ++ [(g, o)]) V C V C k k (VS.take k) (flR R k))) (fun i _ => s - (intOf i).toNat)
        case atStart => exact ⟨0, _, _, Nat.zero_le _, rfl, Lib.hid (fun q hq => absurd hq (Nat.not_lt_zero q)), HL0⟩
        case round =>
          clear HL0
          obtain ⟨k, V, C, hks, rfl, HF, HL⟩ := hrel
          obtain ⟨aV, cV, rfl⟩ := own_shape HL.out.val
          obtain ⟨aC, cC, rfl⟩ := own_shape HL.out.cha
          by_cases hkl : k < s
          · have hk0 : (0:Int) ≤ (k:Int) := by omega
            have hki : (k:Int) < (s:Int) := by omega
            have hRk := HRK.out k
            have htk := take_more (l := VS) (k := k) (by rw [HSZ.out]; exact hkl)
            have HZC : Hid (∀ wx : World, wx.heap[g]? = some o → wx.cell? ⟨g, k, none⟩ = some (.int .i64 (VS.getD k 0))) := Lib.hid (fun wx hx => by
              obtain ⟨b', o', e', c'⟩ := (HGX.out wx hx).at hkl
              cases e'
              rw [Nat.zero_add] at c'
              exact c')
            obtain ⟨z, hz⟩ : ∃ z, VS.getD k 0 = z := ⟨_, rfl⟩
            rw [hz] at hRk htk HZC
            have HTK := Lib.hid htk
            have HRZ := Lib.hid hRk
            clear hz hRk htk
            obtain ⟨wx, hwx⟩ : ∃ w' : World, w' = wr := ⟨_, rfl⟩
            subst hwx
            have HM := Lib.hid (show B30.WlI wx 0 (.slice (some ⟨wx.heap.size, 0, none⟩) 0 0) (fun q => pr ((idxT pv z t).getD q 0)) 180 [] (wx.alloc (.cells #[] 55)) from
              ⟨World.ownsRow_lit wx #[] 0 (Nat.le_refl _) (by decide) rfl, fun j hj => absurd hj (Nat.not_lt_zero _), (Below.refl _ wx).alloc (Nat.le_refl _) _⟩)
            go_wp2_with fail
            obtain ⟨wC, hwC⟩ : ∃ w', wx.alloc (.cells #[] 55) = w' := ⟨_, rfl⟩
            rw [hwC] at HM ⊢
            clear hwC
            go_loopw [11, 10] (fun i L wy => ∃ (u j : Nat) (ga : Option Addr) (ca : Nat) (xs : List Value), u ≤ t ∧ i = .int .i64 (u : Nat) ∧ L = .slice ga j ca ∧ j ≤ 64 ∧ Hid (j = (idxT pv z u).length ∧ B30.WlI wx j (.slice ga j ca) (fun q => pr ((idxT pv z t).getD q 0)) 180 xs wy)) (fun i _ _ => t - (intOf i).toNat)
            case atStart => exact ⟨0, 0, _, _, [], Nat.zero_le _, rfl, rfl, by omega, Lib.hid ⟨rfl, HM.out⟩⟩
            case round =>
              clear HM
              obtain ⟨u, j, ga, ca, xs, hut, rfl, rfl, hj64, HM⟩ := hrel
              by_cases hul : u < t
              · have hu0 : (0:Int) ≤ (u:Int) := by omega
                have hui : (u:Int) < (t:Int) := by omega
                obtain ⟨gy, oy, hay, hcy⟩ := (HX.out.1.below (bthen HL.out.bel HM.out.2.bel)).at hul
                cases hay
                rw [HX.out.2.1 u hul] at hcy
                have hcz := HZC.out wr ((HM.out.2.bel.block g (lt_of_heap (HL.out.keep (g, o) (by simp)).1)).trans (HL.out.keep (g, o) (by simp)).1)
                by_cases he : pv u = z
                · have heb : (pv u == z) = true := by rw [beq_iff_eq]; exact he
                  obtain ⟨g5, o5, sg, p1, p2, l1, e1, l2, e2, fine, p, q, N, D, ha5, hat5⟩ := (HX.out.2.2.1.below HL.out.bel) u hul
                  cases ha5
                  have hw5 := hat5.below HM.out.2.bel
                  obtain ⟨v0, v1, v2, v3, v4, v5, _, _, _⟩ := hw5
                  have hpre := idxT_at (M := t) hul he
                  have HVV := Lib.hid (show B30.WvI wx p1 p2 l1 e1 l2 e2 sg fine p q N D (pr ((idxT pv z t).getD j 0)) ∧ N < 2 ^ 180 ∧ D < 2 ^ 180 ∧ B30.Off p1 l1 (.slice ga j ca) ∧ B30.Off p2 l2 (.slice ga j ca) ∧ j + 1 = (idxT pv z (u + 1)).length from
                    ⟨by rw [HM.out.1, hpre]; exact hat5.v, hat5.n, hat5.d, off_old HM.out.2.own hat5.v.n, off_old HM.out.2.own hat5.v.d, by rw [idxT_yes he, List.length_append, HM.out.1]; rfl⟩)
                  have hj65 : j + 1 ≤ 64 := by rw [HVV.out.2.2.2.2.2]; exact HX.out.2.2.2 z (u + 1) hul
                  clear hat5 hpre he
                  go_wp2_with fail
                  go_region
                  all_goals
                    have hb8 : Below wr.heap.size wr (wr.alloc (.cells #[.bool sg, .slice p1 l1 e1, .slice p2 l2 e2, .bool fine, .int .i64 p, .int .i64 q] 55)) := (Below.refl _ _).alloc (Nat.le_refl _) _
                    have hd8 : Below (wr.alloc (.cells #[.bool sg, .slice p1 l1 e1, .slice p2 l2 e2, .bool fine, .int .i64 p, .int .i64 q] 55)).heap.size (wr.alloc (.cells #[.bool sg, .slice p1 l1 e1, .slice p2 l2 e2, .bool fine, .int .i64 p, .int .i64 q] 55)) (wr.alloc (.cells #[.bool sg, .slice p1 l1 e1, .slice p2 l2 e2, .bool fine, .int .i64 p, .int .i64 q] 55)).drew := (Below.refl _ _).drew
                    have HM8 := Lib.hid ((HM.out.2.all hb8).all hd8)
                    have HV8 := Lib.hid (((HVV.out.1.below HM.out.2.bel).below hb8).below hd8)
                    have HC8 := Lib.hid (B30.C6.all (w' := (wr.alloc (.cells #[.bool sg, .slice p1 l1 e1, .slice p2 l2 e2, .bool fine, .int .i64 p, .int .i64 q] 55)).drew) (B30.C6.new wr 55 (.bool sg) (.slice p1 l1 e1) (.slice p2 l2 e2) (.bool fine) (.int .i64 p) (.int .i64 q)) hd8)
                    clear hb8 hd8
                    go_wp2_with (at_builtin; refine wpList_ap6 rfl (.tmp 50) (.tmp 55) 52 rfl wx.heap.size 55 (.agg #[.bool false, .slice none 0 0, .slice none 0 0, .bool false, .int .i64 0, .int .i64 0]) 80 Tryz.underlying52 B30.infoWide rfl (.slice ga j ca) j xs rfl HM8.out.own wr.heap.size _ _ _ _ _ _ rfl HC8.out rfl (by omega) (by omega) HM8.out.bel.size ?_)
                    intro v9 w9 hown hgrow hat
                    obtain ⟨ag9, cg9, rfl⟩ := B30.own_shape hown
                    have HM9 := Lib.hid (HM8.out.push hown hgrow (by rw [show (wr.alloc (.cells #[.bool sg, .slice p1 l1 e1, .slice p2 l2 e2, .bool fine, .int .i64 p, .int .i64 q] 55)).drew.heap.size = wr.heap.size + 1 from alloc_size _ _]; exact hat) HV8.out HVV.out.2.2.2.1 HVV.out.2.2.2.2.1 HVV.out.2.1 HVV.out.2.2.1)
                    clear hown hgrow hat
                    go_wp2_with fail
                    go_roundw
                    case rel => exact ⟨u + 1, j + 1, ag9, cg9, _, by omega, by go_num, rfl, hj65, Lib.hid ⟨HVV.out.2.2.2.2.2, HM9.out⟩⟩
                    case measure => simp [intOf]; omega
                · have heb : (pv u == z) = false := by rw [beq_eq_false_iff_ne]; exact he
                  have HNX := Lib.hid (show j = (idxT pv z (u + 1)).length by rw [idxT_no he]; exact HM.out.1)
                  clear he
                  go_wp2_with fail
                  go_region
                  all_goals
                    go_wp2_with fail
                    go_roundw
                    case rel => exact ⟨u + 1, j, ga, ca, xs, by omega, by go_num, rfl, hj64, Lib.hid ⟨HNX.out, by first | exact HM.out.2 | exact HM.out.2.all (drewN_below _ _)⟩⟩
                    case measure => simp [intOf]; omega
              · obtain rfl : u = t := by omega
                have hui : ¬ (u:Int) < (u:Int) := by omega
                have hsum : B30.sumW (fun q => pr ((idxT pv z u).getD q 0)) j = R k := by rw [HM.out.1, gS_idx, HRZ.out]
                have HSU := Lib.hid (B30.l05Sum_any ga j ca (fun q => pr ((idxT pv z u).getD q 0)) 180 wr hj64 (by omega) HM.out.2.list)
                rw [hsum] at HSU
                have HBX := Lib.hid HM.out.2.bel
                clear hsum HM
                go_wp2_with fail
                refine HSU.out.mono ?_
                rintro e w7 ⟨sx, t1, t2, t3, t4, t5, t6, f3, p3, q3, N3, D3, rfl, hv3, ⟨hN3, hD3⟩, ⟨hn1, hn2⟩, hb3⟩
                have hjb : 60 + j * (180 + 61) ≤ 60 + 64 * 241 := by omega
                have HG := Lib.hid (B30.give_any sx f3 t1 t4 t2 t3 t5 t6 p3 q3 N3 D3 _ w7 hv3 (B30.big_lt hv3.n hN3 (by omega)) (B30.big_lt hv3.d hD3 (by omega)) (hn1.le (Nat.zero_le _)) (hn2.le (Nat.zero_le _)))
                have HL7 := Lib.hid (HL.out.below (bthen HBX.out hb3))
                clear hv3 hN3 hD3 hn1 hn2 hb3 hjb HBX
                cases hfit : fitR (R k) with
                | false =>
                  rw [fracV_no hfit] at HG
                  have HNO := Lib.hid (HNO0.out (by rw [HGO.out, show fitT R s = false from allB_no hkl hfit]; rfl))
                  clear hfit
                  go_wp2_with fail
                  refine HG.out.mono ?_
                  rintro e w8 ⟨rfl, hb⟩
                  have hL8 := HL7.out.below hb
                  obtain ⟨i0, i1, i2, i3⟩ := pair_cells (hL8.keep _ List.mem_cons_self).1
                  have i4 : w.heap.size < w8.heap.size := lt_of_heap (hL8.keep _ List.mem_cons_self).1
                  have HBW := Lib.hid hL8.bel
                  clear hb hL8
                  go_wp2_with fail
                  refine bodyPost_ret (v := .tuple #[.agg #[.slice none 0 0, .slice none 0 0], .bool false]) (by simp [results, Tryz.results29, go_sem, *]) rfl ?_
                  rw [HNO.out.1, HNO.out.2.1, HNO.out.2.2]
                  have hB := below_two HBW.out (Nat.le_refl w.heap.size) (.slice none 0 0) (.slice none 0 0)
                  exact ⟨_, _, rfl, HZ.out _, hB.alloc hB.size _⟩
                | true =>
                  rw [fracV_yes hfit] at HG
                  have HF2 := Lib.hid (show ∀ q, q < k + 1 → fitR (R q) = true from fun q hq => by
                    rcases Nat.lt_or_ge q k with h | h
                    · exact HF.out q h
                    · obtain rfl : q = k := by omega
                      exact hfit)
                  have HFL := Lib.hid (show flR R (k + 1) = flR R k ++ [(R k).num, ((R k).den : Nat)] from rfl)
                  obtain ⟨fp, hfp⟩ : ∃ fp, (R k).num = fp := ⟨_, rfl⟩
                  obtain ⟨fq, hfq⟩ : ∃ fq : Int, (((R k).den : Nat) : Int) = fq := ⟨_, rfl⟩
                  rw [hfp, hfq] at HG HFL
                  clear hfit hfp hfq
                  go_wp2_with fail
                  refine HG.out.mono ?_
                  rintro e w8 ⟨rfl, hb⟩
                  have HLq := Lib.hid ((HL7.out.below hb).also (.cells #[.int .i64 fp, .int .i64 fq] 40))
                  clear hb HL7
                  go_wp2_with fail
                  obtain ⟨b12, hb12⟩ : ∃ x, w8.heap.size = x := ⟨_, rfl⟩
                  obtain ⟨wq, hwq⟩ : ∃ w', w8.alloc (.cells #[.int .i64 fp, .int .i64 fq] 40) = w' := ⟨_, rfl⟩
                  rw [hb12, hwq] at HLq
                  rw [hwq]
                  try rw [hb12]
                  clear hwq hb12
                  have HLd := Lib.hid (HLq.out.below (Below.refl _ wq).drew)
                  have HSS : Hid (∀ (wy : World) (V' C' : Value) (nv : Nat) (xs : List Int), LO w wy b ((b12, .cells #[.int .i64 fp, .int .i64 fq] 40) :: ([(w.heap.size, .cells #[.slice none 0 0, .slice none 0 0] 29)] ++ [(g, o)])) (.slice aV k cV) (.slice aC k cC) V' C' nv k xs (flR R k) → wy.cell? ⟨b, 0, none⟩ = some (.slice aV k cV) ∧ wy.cell? ⟨g, k, none⟩ = some (.int .i64 z)) := Lib.hid (fun wy V' C' nv xs h => ⟨h.cells.1, HZC.out wy (h.keep (g, o) (by simp)).1⟩)
                  have hS := HSS.out _ _ _ _ _ HLd.out
                  refine wp_region_any (by kernel_rfl) (any_of_K (k := 9) (S := fun w' => w'.cell? ⟨b, 0, none⟩ = some (.slice aV k cV) ∧ w'.cell? ⟨g, k, none⟩ = some (.int .i64 z)) (T := fun _ => True) _ _ _ _ ?_)
                  refine anyT_take (i := 0) (n := 9) (v := .pointer (some ⟨b, 0, none⟩)) rfl (by decide) (by kernel_rfl) (by kernel_rfl) (by kernel_rfl) (fun _ _ _ h => h) (Or.inl ⟨by kernel_rfl, fun w' hw => by go_simp⟩) hS trivial ?_
                  refine anyK_take (i := 1) (n := 8) (v := .slice aV k cV) rfl rfl (by kernel_rfl) (by kernel_rfl) (by kernel_rfl) (by kernel_rfl) (by kernel_rfl) (fun _ _ _ h => h) (Or.inl ⟨by kernel_rfl, fun w' hw => by (obtain ⟨z0, z1⟩ := hw; go_simp)⟩) hS trivial ?_
                  refine anyT_take (i := 2) (n := 7) (v := .slice (some ⟨g, 0, none⟩) s cS) rfl (by decide) (by kernel_rfl) (by kernel_rfl) (by kernel_rfl) (fun _ _ _ h => h) (Or.inl ⟨by kernel_rfl, fun w' hw => by go_simp⟩) hS trivial ?_
                  refine anyT_take (i := 3) (n := 6) (v := .int .i64 (k : Nat)) rfl (by decide) (by kernel_rfl) (by kernel_rfl) (by kernel_rfl) (fun _ _ _ h => h) (Or.inl ⟨by kernel_rfl, fun w' hw => by go_simp⟩) hS trivial ?_
                  refine anyT_take (i := 4) (n := 5) (v := .pointer (some ⟨g, k, none⟩)) rfl (by decide) (by kernel_rfl) (by kernel_rfl) (by kernel_rfl) (fun _ _ _ h => h) (Or.inl ⟨by kernel_rfl, fun w' hw => by go_simp⟩) hS trivial ?_
                  refine anyK_take (i := 5) (n := 4) (v := .int .i64 z) rfl rfl (by kernel_rfl) (by kernel_rfl) (by kernel_rfl) (by kernel_rfl) (by kernel_rfl) (fun _ _ _ h => h) (Or.inl ⟨by kernel_rfl, fun w' hw => by (obtain ⟨z0, z1⟩ := hw; go_simp)⟩) hS trivial ?_
                  refine anyK_all (n := 3) (rs := [6]) (by kernel_rfl) (by simp) (fun i hi => ?_)
                  simp only [List.mem_cons, List.not_mem_nil, or_false] at hi
                  obtain rfl := hi
                  refine wpOp_step rfl (fun K' hK => ?_)
                  go_simp
                  have HB1 := Lib.hid (HLd.out.below ((Below.refl _ _).alloc (Nat.le_refl _) (.cells #[.int .i64 z] 2)))
                  refine hK _ _ ⟨fun _ _ => HSS.out _ _ _ _ _ HB1.out, trivial, ?_⟩
                  clear hK hS
                  refine anyK_all (n := 2) (rs := [7]) (by kernel_rfl) (by simp) (fun i hi => ?_)
                  simp only [List.mem_cons, List.not_mem_nil, or_false] at hi
                  obtain rfl := hi
                  refine wpOp_step rfl (fun K' hK => ?_)
                  refine step_ap1 rfl (.tmp 67) (.tmp 72) 22 rfl w.heap.size 2 (.int .i64 0) 8 Tryz.underlying22 Tryz.infoI rfl _ k _ rfl HB1.out.val _ (.int .i64 z) rfl (by go_simp) rfl (by omega) (by omega) HB1.out.bel.size ?_
                  intro v6 w9 hown hgrow hat
                  obtain ⟨av6, cv6, rfl⟩ := own_shape hown
                  have HC1 := Lib.hid (HB1.out.pushV hown hgrow hat)
                  clear hown hgrow hat
                  refine hK _ _ ⟨fun _ _ => HSS.out _ _ _ _ _ HC1.out, trivial, ?_⟩
                  clear hK
                  obtain ⟨i1, i2, i3, i4⟩ := HC1.out.cells
                  refine anyT_take (i := 8) (n := 1) (v := .pointer (some ⟨b, 0, none⟩)) rfl (by decide) (by kernel_rfl) (by kernel_rfl) (by kernel_rfl) (fun _ _ _ h => h) (Or.inl ⟨by kernel_rfl, fun w' hw => by go_simp⟩) (HSS.out _ _ _ _ _ HC1.out) trivial ?_
                  refine anyK_all (n := 0) (rs := [9]) (by kernel_rfl) (by simp) (fun i hi => ?_)
                  simp only [List.mem_cons, List.not_mem_nil, or_false] at hi
                  obtain rfl := hi
                  refine wpOp_step rfl (fun K' hK => ?_)
                  go_simp
                  refine hK _ _ ⟨fun h => absurd rfl h, trivial, ?_⟩
                  clear hK i1 i2 i3 i4
                  refine ⟨by kernel_rfl, ?_⟩
                  have HE1 := Lib.hid HC1.out.storeV
                  obtain ⟨wv, hwv⟩ : ∃ w', w9.setCell ⟨b, 0, none⟩ (.slice av6 (k + 1) cv6) = w' := ⟨_, rfl⟩
                  rw [hwv] at HE1
                  rw [hwv]
                  clear hwv HC1 HB1 HLd HLq
                  obtain ⟨i1, i2, i3, i4⟩ := HE1.out.cells
                  obtain ⟨n1, n2, n3, n4⟩ := pair_cells (HE1.out.keep _ List.mem_cons_self).1
                  have HE2 := Lib.hid (HE1.out.below ((Below.refl _ wv).alloc (Nat.le_refl _) (.cells #[.int .i64 fp, .int .i64 fq] 40)))
                  go_wp2_with (at_builtin; refine wpList_ap2 rfl (.tmp 76) (.tmp 78) 27 rfl w.heap.size 40 (.agg #[.int .i64 0, .int .i64 0]) 16 Tryz.underlying27 Tryz.infoFr rfl _ k _ rfl HE2.out.cha _ (.int .i64 fp) (.int .i64 fq) rfl (by go_simp) (by go_simp) rfl rfl (by omega) (by omega) HE2.out.bel.size ?_)
                  intro c6 w10 hown hgrow hat
                  obtain ⟨ac6, cc6, rfl⟩ := own_shape hown
                  have HE3 := Lib.hid (HE2.out.pushC hown hgrow (by rw [alloc_size]; exact hat))
                  clear hown hgrow hat i1 i2 i3 i4 n1 n2 n3 n4
                  obtain ⟨i1, i2, i3, i4⟩ := HE3.out.cells
                  have HE4 := Lib.hid HE3.out.storeC.less
                  go_wp2_with fail
                  go_roundw
                  case rel => exact ⟨k + 1, _, _, by omega, by go_num, HF2, Lib.hid (by rw [HFL.out, HTK.out]; exact HE4.out)⟩
                  case measure => simp [intOf]; omega
          · obtain rfl : k = s := by omega
            have hki : ¬ (k:Int) < (k:Int) := by omega
            have htv : VS.take k = VS := by rw [← HSZ.out]; exact List.take_length
            rw [htv] at HL
            have HLI := Lib.hid (l05Is_any b aV aC k k cV cC VS (flR R k) wr (by omega) (by omega) ⟨HL.out.cells.1, HL.out.cells.2.1, HL.out.cells.2.2.1, HL.out.cells.2.2.2, lt_of_heap HL.out.box⟩ (IsInts.of_own HL.out.val) (IsInts.of_own2 HL.out.cha))
            have HOK := Lib.hid (show gOk pv pr t = lawOk VS (flR R k) k k by rw [HGO.out, show fitT R k = true from allB_of HF.out]; rfl)
            clear htv
            cases hok : lawOk VS (flR R k) k k with
            | false =>
              rw [hok] at HLI
              have HNO := Lib.hid (HNO0.out (by rw [HOK.out, hok]))
              clear hok
              go_wp2_with fail
              refine HLI.out.mono ?_
              rintro e w8 ⟨rfl, hb⟩
              have hL8 := HL.out.below hb
              obtain ⟨i0, i1, i2, i3⟩ := pair_cells (hL8.keep _ List.mem_cons_self).1
              have i4 : w.heap.size < w8.heap.size := lt_of_heap (hL8.keep _ List.mem_cons_self).1
              have HBW := Lib.hid hL8.bel
              clear hb hL8
              go_wp2_with fail
              refine bodyPost_ret (v := .tuple #[.agg #[.slice none 0 0, .slice none 0 0], .bool false]) (by simp [results, Tryz.results29, go_sem, *]) rfl ?_
              rw [HNO.out.1, HNO.out.2.1, HNO.out.2.2]
              exact ⟨_, _, rfl, HZ.out _, below_two HBW.out (Nat.le_refl w.heap.size) (.slice none 0 0) (.slice none 0 0)⟩
            | true =>
              rw [hok] at HLI
              have HYES := Lib.hid (show ok = true ∧ RV = VS ∧ RF = flR R k from by
                have h0 : ok = true := by rw [← HRES2.out.1, HOK.out, hok]
                refine ⟨h0, ?_, ?_⟩
                · rw [← HRES2.out.2.1, h0, if_pos rfl]
                · rw [← HRES2.out.2.2, h0, if_pos rfl])
              clear hok
              go_wp2_with fail
              refine HLI.out.mono ?_
              rintro e w8 ⟨rfl, hb⟩
              have hL8 := HL.out.below hb
              obtain ⟨i0, i1, i2, i3⟩ := pair_cells (hL8.keep _ List.mem_cons_self).1
              have i4 : w.heap.size < w8.heap.size := lt_of_heap (hL8.keep _ List.mem_cons_self).1
              obtain ⟨n1, n2, n3, n4⟩ := hL8.cells
              have HGV := Lib.hid (LO.give (K := [(g, o)]) hL8 (Nat.le_refl _) HSZ.out.symm HSZ.out.symm)
              clear hb hL8
              go_wp2_with fail
              refine bodyPost_ret (v := .tuple #[.agg #[.slice aV k cV, .slice aC k cC], .bool true]) (by simp [results, Tryz.results29, go_sem, *]) rfl ?_
              rw [HYES.out.1, HYES.out.2.1, HYES.out.2.2]
              exact ⟨_, _, rfl, HGV.out.1, HGV.out.2⟩
end Go.Proofs.YtaneocedklnajaaGreat

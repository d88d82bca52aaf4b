import Derived.Test.YtfageonhlmhhpaaAliasFace
import Derived.Test.YtfageonhlmhhpaaDraws
import Derived.Deep.DeepCutAuto
import Derived.Outline
/- The law FnAliasExact: what it walks. -/
namespace Go.Proofs.Ytfageonhlmhhpaa
open Go.RowKit
set_option linter.unusedVariables false

theorem sum15 : ∀ zs : List Int, (∀ z ∈ zs, 0 ≤ z ∧ z ≤ 15) → zs.sum ≤ 15 * (zs.length : Int)
  | [], _ => by simp
  | z :: zs, h => by
    have h1 := sum15 zs (fun y hy => h y (List.mem_cons_of_mem _ hy))
    have h2 := h z List.mem_cons_self
    simp only [List.sum_cons, List.length_cons]
    omega
theorem wOk_areW {zs : List Int} (h : wOk zs) : areW zs = true := by
  obtain ⟨a, b, c, d⟩ := h
  have h2 : allR zs 0 1000000 = true := by
    refine List.all_eq_true.2 fun z hz => ?_
    have := c z hz
    simp [inR]; omega
  have hs := sumL_eq zs h2 (by omega)
  have hb := sum15 zs c
  have h1 : inR zs.length 1 16 = true := by simp [inR]; omega
  have h3 : inR zs.sum 1 1000000 = true := by simp [inR]; omega
  simp [areW, h1, h2, hs, h3]

/-- The counts when i columns are done. -/
def cnt (T : Int) (s : Al.St) (n i : Nat) : List Int := (List.range n).map fun k => (if k < i then s.ct.getD k 0 else 0) + Al.sumTo (Al.cont T s k) i
theorem cnt_len (T : Int) (s : Al.St) (n i : Nat) : (cnt T s n i).length = n := by simp [cnt]
theorem cnt_at {T : Int} {s : Al.St} {n k : Nat} (i : Nat) (hk : k < n) : (cnt T s n i).getD k 0 = (if k < i then s.ct.getD k 0 else 0) + Al.sumTo (Al.cont T s k) i := by
  rw [getD_eq _ _ (by rw [cnt_len]; exact hk)]
  simp only [cnt, List.getElem_map, List.getElem_range]
theorem cnt_zero (T : Int) (s : Al.St) (n : Nat) : cnt T s n 0 = List.replicate n 0 := by
  apply List.ext_getElem
  · simp [cnt_len]
  · intro k h1 h2
    simp [cnt, Al.sumTo]
theorem cnt_step {T : Int} {s : Al.St} {n i o : Nat} (hi : i < n) (ho : o < n) (he : s.ot.getD i 0 = (o : Int)) {x y : Int} (hx : x = (cnt T s n i).getD i 0 + s.ct.getD i 0)
    (hy : y = ((cnt T s n i).set i x).getD o 0 + (T - s.ct.getD i 0)) : ((cnt T s n i).set i x).set o y = cnt T s n (i + 1) := by
  refine ext_getD (by simp [cnt_len]) fun k hk => ?_
  have hkn : k < n := by simpa [cnt_len] using hk
  rw [cnt_at (i + 1) hkn]
  have hx' : x = Al.sumTo (Al.cont T s i) i + s.ct.getD i 0 := by
    rw [hx, cnt_at i hi, if_neg (by omega)]; omega
  have h1 : ((cnt T s n i).set i x).getD k 0 = (if k < i + 1 then s.ct.getD k 0 else 0) + Al.sumTo (Al.cont T s k) i := by
    by_cases hik : i = k
    · subst hik
      rw [Al.getD_set_eq _ _ _ _ (by rw [cnt_len]; exact hi), hx', if_pos (by omega)]; omega
    · rw [Al.getD_set_ne _ _ _ _ _ hik, cnt_at i hkn]
      by_cases h : k < i
      · rw [if_pos h, if_pos (by omega)]
      · rw [if_neg h, if_neg (by omega)]
  simp only [Al.sumTo]
  by_cases hok : o = k
  · subst hok
    rw [Al.getD_set_eq _ _ _ _ (by simp [cnt_len]; exact ho), hy, h1, Al.cont_eq he]; omega
  · rw [Al.getD_set_ne _ _ _ _ _ hok, h1, Al.cont_ne (by rw [he]; omega)]; omega

theorem ct_bd {n : Nat} {T : Int} {s : Al.St} (h : Al.Inv n T s) (i : Nat) (hi : i < n) : 0 ≤ s.ct.getD i 0 ∧ s.ct.getD i 0 ≤ T := by
  have hT := h.T1
  cases hd : s.dn.getD i false with
  | true => have := h.ctd i hi hd; omega
  | false => rw [h.ctn i hi hd]; omega
theorem sumTo_cont_bd {n : Nat} {T : Int} {s : Al.St} (h : Al.Inv n T s) (k : Nat) : ∀ i, i ≤ n → 0 ≤ Al.sumTo (Al.cont T s k) i ∧ Al.sumTo (Al.cont T s k) i ≤ (i : Int) * 1000000
  | 0, _ => by simp [Al.sumTo]
  | i + 1, hi => by
    have ih := sumTo_cont_bd h k i (by omega)
    have hc := ct_bd h i (by omega)
    have hT := h.T2
    simp only [Al.sumTo]
    by_cases he : s.ot.getD i 0 = (k : Int)
    · rw [Al.cont_eq he]; omega
    · rw [Al.cont_ne he]; omega
theorem cnt_bd {n : Nat} {T : Int} {s : Al.St} (h : Al.Inv n T s) (hn : n ≤ 16) (i : Nat) (hi : i ≤ n) (k : Nat) (hk : k < n) : 0 ≤ (cnt T s n i).getD k 0 ∧ (cnt T s n i).getD k 0 ≤ 17000000 := by
  rw [cnt_at i hk]
  have h1 := sumTo_cont_bd h k i hi
  have h2 := ct_bd h k hk
  have hT := h.T2
  split <;> omega

set_option maxRecDepth 100000 in
set_option maxHeartbeats 3200000 in
theorem fnAliasExact_walk (a a' : Option Addr) (len cap len' cap' : Nat) (bs bs' : List Int) (w : World) (hx : IsU8s w a len bs) (hx' : IsU8s w a' len' bs') :
    Calls Try.prog 4 #[.slice a len cap, .slice a' len' cap'] w fun e w' => e = .returned (.bool true) ∧ Below w.heap.size w w' := by
  cases hlong : (decide (48 < len) || decide (48 < len')) with
  | true =>
    go_enter Try.func4, Try.ntmps4
    go_wp2_with fail
    refine (r8Long_any _ _ _ _ _ _ _).mono ?_
    rintro e w' ⟨rfl, rfl⟩
    rw [hlong]
    go_wp2_with fail
    go_ret
    exact ⟨rfl, Below.refl _ _⟩
  | false =>
    have hlens : len ≤ 48 ∧ len' ≤ 48 := by simpa using hlong
    go_enter Try.func4, Try.ntmps4
    go_wp2_with fail
    refine (r8Long_any _ _ _ _ _ _ _).mono ?_
    rintro e w' ⟨rfl, rfl⟩
    rw [hlong]
    clear hlong
    go_wp2_with fail
    refine (r8Weights_any _ _ _ bs w hx (by omega)).mono ?_
    rintro e w1 ⟨ws, gw, cw, rfl, hw, hO1⟩
    have hrow := (hO1.1.rowAt 0 rfl).1
    rw [List.length_map] at hrow
    have h1 : At w w1 [⟨some ⟨gw, 0, none⟩, ws.length, cw, ws⟩] := ⟨Lists.one hrow, hO1.2⟩
    have hl6 := hw.2.1
    have hl1 := hw.1
    have ha := wOk_areW hw
    have hi := areW_iff ws (by omega) ha
    have hI := alT_inv ws hi
    have hT2 : ws.sum ≤ 1000000 := hi.2.2.2.2.2.2
    have hT1 : 1 ≤ ws.sum := hi.2.2.2.2.2.1
    have eC : tabC ws = (alT ws).ct := if_pos ha
    have eO : tabO ws = (alT ws).ot := if_pos ha
    obtain ⟨T, hT⟩ : ∃ T, ws.sum = T := ⟨_, rfl⟩
    rw [hT] at hI hT1 hT2
    obtain ⟨s, hs⟩ : ∃ s, alT ws = s := ⟨_, rfl⟩
    rw [hs] at hI eC eO
    have HI := Lib.hid (And.intro hI (And.intro hT hs))
    have HE := Lib.hid (And.intro eC eO)
    have Ha := Lib.hid (And.intro ha hi)
    have H1 := Lib.hid h1
    have Hw := Lib.hid hw
    clear hrow h1 hO1 hw ha hi hI eC eO hT hs
    go_wp2_with fail
    refine (aliasTable_any _ _ _ ws _ (show ws.length ≤ 1048576 by omega) (H1.out.1.at 0 rfl)).mono ?_
    rintro e w2 ⟨aC, cC, aO, cO, rfl, hl, hb⟩
    have h2 := H1.out.join hb hl
    rw [HE.out.1, HE.out.2, HI.out.1.ctl, HI.out.1.otl] at h2
    rw [HE.out.1, HE.out.2, Ha.out.1, HI.out.1.ctl, HI.out.1.otl]
    have H2 := Lib.hid h2
    obtain ⟨gC, rfl⟩ := h2.1.addr 0 rfl (show 0 < ws.length by omega)
    obtain ⟨gO, rfl⟩ := h2.1.addr 1 rfl (show 0 < ws.length by omega)
    clear hl hb h2
    go_wp2_with fail
    refine (r8Sum_any _ _ _ ws _ (show ws.length < 4611686018427387904 by omega) (H2.out.1.at 2 rfl)).mono ?_
    rintro e w' ⟨rfl, rfl⟩
    rw [Ha.out.2.2.2.2.1, HI.out.2.1]
    obtain ⟨i0, hi, hz0, hz1, hz2⟩ := info_parts Try.infoI
    have hm := zeros_toList ws.length
    have Hm := Lib.hid hm
    clear hm
    go_wp2_with (at_make; refine wpList_make_full _ rfl _ _ 22 rfl w2.heap.size 2 i0 (.int .i64 0) 1 Try.underlying22 hi hz0 hz1 _ _ _ _ ws.length rfl rfl rfl rfl ?c1 ?c2 ?c3 ?_)
    case c1 => rw [hz2]; omega
    case c2 => unfold maxLen; omega
    case c3 => exact Nat.le_refl _
    intro w3 hown hgrow
    have hbw : Below w2.heap.size w2 w3 := (Below.refl _ _).grown hgrow (Nat.le_refl _) (by simp)
    rw [Hm.out, ← cnt_zero T s ws.length] at hown
    have h3 := H2.out.join hbw (Lists.one hown)
    have H3 := Lib.hid h3
    clear hown hgrow hbw h3 hi hz0 hz1 hz2
    -- counts C O W
    go_wp2
    go_loopw [12] (fun i wr => ∃ k : Nat, k ≤ ws.length ∧ i = .int .i64 k ∧ At w wr [⟨some ⟨w2.heap.size, 0, none⟩, ws.length, ws.length, cnt T s ws.length k⟩, ⟨some ⟨gC, 0, none⟩, ws.length, cC, s.ct⟩, ⟨some ⟨gO, 0, none⟩, ws.length, cO, s.ot⟩, ⟨some ⟨gw, 0, none⟩, ws.length, cw, ws⟩]) (fun i _ => ws.length - (intOf i).toNat)
    case atStart => exact ⟨0, Nat.zero_le _, rfl, H3.out⟩
    case round =>
      obtain ⟨k, hk, rfl, h⟩ := hrel
      have H := Lib.hid h
      by_cases hlt : k < ws.length
      · have hk0 : (0:Int) ≤ (k:Int) := by omega
        have hkl : (k:Int) < (ws.length:Int) := by omega
        have c1 := h.1.intAt 1 rfl k hlt
        have c2 := h.1.intAt 2 rfl k hlt
        have c3 := h.1.intAt 0 rfl k hlt
        have f3 := h.1.frozenAt 0 rfl k
        have b1 := ct_bd HI.out.1 k hlt
        have b2 := HI.out.1.otd k hlt
        have b3 := cnt_bd HI.out.1 (by omega) k hk k hlt
        obtain ⟨x, hx1⟩ : ∃ x, s.ct.getD k 0 = x := ⟨_, rfl⟩
        obtain ⟨y, hy1⟩ : ∃ y, s.ot.getD k 0 = y := ⟨_, rfl⟩
        obtain ⟨z, hz1⟩ : ∃ z, (cnt T s ws.length k).getD k 0 = z := ⟨_, rfl⟩
        rw [hx1] at c1 b1
        rw [hy1] at c2 b2
        rw [hz1] at c3 b3
        obtain ⟨o, rfl⟩ := Int.eq_ofNat_of_zero_le b2.1
        have HX := Lib.hid (And.intro hx1 (And.intro hy1 hz1))
        have w1 : IntKind.i64.wrap (z + x) = z + x := IntWalk.i64_in _ (by omega)
        clear h hx1 hy1 hz1
        go_upto_region 16 with fail
        go_cut [12] (fun v12 wc => v12 = .int .i64 (k : Nat) ∧ At w wc [⟨some ⟨w2.heap.size, 0, none⟩, ws.length, ws.length, (cnt T s ws.length k).set k (z + x)⟩, ⟨some ⟨gC, 0, none⟩, ws.length, cC, s.ct⟩, ⟨some ⟨gO, 0, none⟩, ws.length, cO, s.ot⟩, ⟨some ⟨gw, 0, none⟩, ws.length, cw, ws⟩])
        case first =>
          go_region
          all_goals (try go_wp2_with fail)
          all_goals go_meet
          all_goals exact ⟨rfl, (H.out.set 0 rfl k (z + x)).drew⟩
        case rest =>
          obtain ⟨rfl, hc⟩ := hcut
          clear c1 c2 c3 f3 w1
          have hol : o < ws.length := by omega
          have c1 := hc.1.intAt 1 rfl k hlt
          have c2 := hc.1.intAt 2 rfl k hlt
          have c3 := hc.1.intAt 0 rfl o hol
          have f3 := hc.1.frozenAt 0 rfl o
          have b4 : 0 ≤ ((cnt T s ws.length k).set k (z + x)).getD o 0 ∧ ((cnt T s ws.length k).set k (z + x)).getD o 0 ≤ 18000000 := by
            by_cases hko : k = o
            · subst hko
              rw [Al.getD_set_eq _ _ _ _ (by rw [cnt_len]; exact hlt)]
              omega
            · rw [Al.getD_set_ne _ _ _ _ _ hko]
              have := cnt_bd HI.out.1 (by omega) k hk o hol
              omega
          obtain ⟨u, hu1⟩ : ∃ u, ((cnt T s ws.length k).set k (z + x)).getD o 0 = u := ⟨_, rfl⟩
          rw [HX.out.1] at c1
          rw [HX.out.2.1] at c2
          rw [hu1] at c3 b4
          have HU := Lib.hid hu1
          have HC := Lib.hid hc
          have w1 : IntKind.i64.wrap (T - x) = T - x := IntWalk.i64_in _ (by omega)
          have w2' : IntKind.i64.wrap (u + (T - x)) = u + (T - x) := IntWalk.i64_in _ (by omega)
          clear hu1 hc
          go_wp2_with fail
          go_region
          all_goals (try go_wp2_with fail)
          all_goals
            go_roundw
            case rel =>
              refine ⟨k + 1, by omega, by go_num, ?_⟩
              have e := cnt_step (T := T) (s := s) (n := ws.length) (i := k) (o := o) hlt hol HX.out.2.1 (x := z + x) (y := u + (T - x)) (by rw [HX.out.1, HX.out.2.2]) (by rw [HX.out.1, HU.out])
              rw [← e]
              exact (HC.out.set 0 rfl o (u + (T - x))).drew
            case measure => simp [intOf]; omega
      · have hkl : k = ws.length := by omega
        subst hkl
        clear h
        go_wp2
        go_loopw [13] (fun i wx => ∃ k : Nat, k ≤ ws.length ∧ i = .int .i64 k ∧ ∃ q, wx = wr.drewN q) (fun i _ => ws.length - (intOf i).toNat)
        case atStart => exact ⟨0, Nat.zero_le _, rfl, 0, rfl⟩
        case round =>
          obtain ⟨k, hk, rfl, q, rfl⟩ := hrel
          by_cases hlt : k < ws.length
          · have hk0 : (0:Int) ≤ (k:Int) := by omega
            have hkl : (k:Int) < (ws.length:Int) := by omega
            have c1 := H.out.1.intAt 0 rfl k hlt
            have c2 := H.out.1.intAt 3 rfl k hlt
            have hw1 : 0 ≤ ws.getD k 0 ∧ ws.getD k 0 ≤ 15 := by rw [getD_eq _ _ hlt]; exact Hw.out.2.2.1 _ (List.getElem_mem hlt)
            have hct := Al.counted (T := ws.sum) (Al.inv_start ws ws.sum (by omega) Ha.out.2.2.2.1 rfl Ha.out.2.2.2.2.2.2.1 Ha.out.2.2.2.2.2.2.2) k hlt
            rw [show (Al.run ws.sum ws.length (Al.start ws ws.sum)) = alT ws from rfl, HI.out.2.2, HI.out.2.1] at hct
            rw [cnt_at ws.length hlt, if_pos hlt, hct] at c1
            obtain ⟨x, hxe⟩ : ∃ x, ws.getD k 0 = x := ⟨_, rfl⟩
            rw [hxe] at c1 c2 hw1
            have hm0 : 0 ≤ (ws.length : Int) * x := Int.mul_nonneg (by omega) hw1.1
            have hm1 : (ws.length : Int) * x ≤ 240 := by
              have : (ws.length : Int) * x ≤ 16 * x := Int.mul_le_mul_of_nonneg_right (by omega) hw1.1
              omega
            clear hct hxe
            go_wp2
            go_quiet (fail)
            go_wp2
            go_roundw
            case rel => exact ⟨k + 1, by omega, by go_num, _, rfl⟩
            case measure => simp [intOf]; omega
          · have hkl : k = ws.length := by omega
            subst hkl
            have H4 := Lib.hid (H.out.drewN q)
            go_wp2_with fail
            refine (r8At_any _ _ _ bs' 0 _ _ (hx'.below H4.out.2)).mono ?_
            rintro e w' ⟨col, rfl, hc0, hc1, rfl⟩
            go_wp2_with fail
            refine (r8At_any _ _ _ bs' 1 _ _ (hx'.below H4.out.2)).mono ?_
            rintro e w' ⟨lev, rfl, hv0, hv1, rfl⟩
            have hok : faceOk ws col lev = true := by
              have e1 : inR col 0 ((ws.length : Int) - 1) = true := by simp [inR]; omega
              have e2 : inR lev 0 (ws.sum - 1) = true := by rw [HI.out.2.1]; simp [inR]; omega
              simp [faceOk, Ha.out.1, e1, e2]
            obtain ⟨cn, rfl⟩ := Int.eq_ofNat_of_zero_le hc0
            have hcn : cn < ws.length := by omega
            have hcl : (cn:Int) < (ws.length:Int) := by omega
            obtain ⟨x, hxe⟩ : ∃ x, s.ct.getD cn 0 = x := ⟨_, rfl⟩
            obtain ⟨y, hye⟩ : ∃ y, s.ot.getD cn 0 = y := ⟨_, rfl⟩
            have hfv : faceV ws cn lev = if lev < x then (cn : Int) else y := by
              simp only [faceV, hok, if_true]
              rw [show (cn : Int).toNat = cn from rfl, HI.out.2.2, hxe, hye]
            have HF := Lib.hid (And.intro hok hfv)
            have HX := Lib.hid (And.intro hxe hye)
            clear hok hfv hxe hye
            go_wp2_with fail
            refine (aliasFace_any _ _ _ ws _ _ _ (show ws.length ≤ 1048576 by omega) (H4.out.1.at 3 rfl)).mono ?_
            rintro e w5 ⟨rfl, hb5⟩
            rw [HF.out.1, HF.out.2]
            have h5 := H4.out.ret hb5
            have c1 := h5.1.intAt 1 rfl cn hcn
            have c2 := h5.1.intAt 2 rfl cn hcn
            rw [HX.out.1] at c1
            rw [HX.out.2] at c2
            have H5 := Lib.hid h5
            clear h5 hb5
            by_cases hlx : lev < x
            · rw [if_pos hlx]
              go_wp2
              go_ret
              exact ⟨rfl, H5.out.2⟩
            · rw [if_neg hlx]
              go_wp2
              go_ret
              exact ⟨rfl, H5.out.2⟩
end Go.Proofs.Ytfageonhlmhhpaa

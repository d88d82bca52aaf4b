import Derived.Test.YtpineiocjaajnaaShP
import Derived.Test.YtpineiocjaajnaaCgV
/- The program's ShortestPoint. Condition: none (what is not valid is told apart). -/
namespace Go.Proofs.Ytpineiocjaajnaa
open Go.RowKit
set_option linter.unusedVariables false

def spOk (m a ad D : Int) : Bool := cgOk m a ad && inR D 2 3
/-- The first point: nothing but the modulus at the end. -/
def ptV (m : Int) (D : Nat) : List Int := List.replicate (D - 1) 0 ++ [m]
theorem ptV_len (m : Int) {D : Nat} (h : 1 ≤ D) : (ptV m D).length = D := by simp [ptV]; omega
theorem ptV_two (m : Int) : ptV m 2 = [0, m] := rfl
theorem ptV_three (m : Int) : ptV m 3 = [0, 0, m] := rfl
theorem ptV_kind {a m : Int} {D : Nat} (hm : 0 < m) (hD : D = 2 ∨ D = 3) : IsPt a m D (ptV m D) ∧ sqL (ptV m D) = m * m := by
  have e0 : (m - a * 0) % m = 0 := by simp
  have e1 : (0 - a * 0 : Int) % m = 0 := by simp
  have e2 : posL [0, m] = true := by simp [posL]; omega
  have e3 : posL [0, 0, m] = true := by simp [posL]; omega
  rcases hD with rfl | rfl
  · rw [ptV_two]
    exact ⟨⟨rfl, ⟨fun y t h => by have := List.cons.inj h; rw [← this.1]; exact e0, ptL_one _ _ _⟩, e2⟩, by simp [sqL]⟩
  · rw [ptV_three]
    exact ⟨⟨rfl, ⟨fun y t h => by have := List.cons.inj h; rw [← this.1]; exact e1, ⟨fun y t h => by have := List.cons.inj h; rw [← this.1]; exact e0, ptL_one _ _ _⟩⟩, e3⟩, by simp [sqL]⟩
theorem ptV_set (m : Int) {D : Nat} (h : 1 ≤ D) : (List.replicate D (0 : Int)).set (D - 1) m = ptV m D := by
  obtain ⟨n, rfl⟩ : ∃ n, D = n + 1 := ⟨D - 1, by omega⟩
  unfold ptV
  rw [Nat.add_sub_cancel, List.replicate_succ']
  rw [List.set_append_right _ _ (by simp)]
  simp
/-- What ShortestPoint gives. -/
def RetSp (w : World) (P : List Int → Prop) (ok : Bool) (D : Nat) (e : Ending) (w' : World) : Prop :=
  if ok then ∃ c v, e = .returned (.tuple #[v, .int .i64 (sqL c), .bool true]) ∧ BestOf P c ∧ c.length = D ∧ GrowAt w w' 2 v D (c.map (Value.int .i64))
  else e = .returned (.tuple #[.slice none 0 0, .int .i64 0, .bool false]) ∧ Below w.heap.size w w'
theorem retSp_no {w w' : World} {P : List Int → Prop} {D : Nat} (h : Below w.heap.size w w') : RetSp w P false D (.returned (.tuple #[.slice none 0 0, .int .i64 0, .bool false])) w' := ⟨rfl, h⟩
theorem retSp_yes {w w' : World} {P : List Int → Prop} {D : Nat} {c : List Int} {v : Value} (h1 : BestOf P c) (h2 : c.length = D) (h : GrowAt w w' 2 v D (c.map (Value.int .i64))) : RetSp w P true D (.returned (.tuple #[v, .int .i64 (sqL c), .bool true])) w' := ⟨c, v, rfl, h1, h2, h⟩
theorem points_all (B bx D : Nat) (a m ad : Int) (hm : 2 ≤ m ∧ m ≤ 100000) (ha : 0 ≤ a ∧ a < m) (hD : 1 ≤ D) (hD4 : D ≤ 4) : ∀ r, PtsC Try.prog 32 B bx D a m ad r
  | 0 => points_zero B bx D a m ad hm hD hD4
  | r + 1 => points_succ B bx D a m ad r hm ha hD hD4 (points_all B bx D a m ad hm ha hD hD4 r)
set_option maxRecDepth 100000 in
set_option maxHeartbeats 1600000 in
theorem shortestPoint_any (m a ad d : Int) (w : World) : Calls Try.prog 9 #[.agg #[.int .i64 m, .int .i64 a, .int .i64 ad], .int .i64 d] w (RetSp w (IsPt a m d.toNat) (spOk m a ad d) d.toNat) := by
  have hA := (Below.refl _ w).alloc (Nat.le_refl _) (.cells #[.int .i64 m, .int .i64 a, .int .i64 ad] 27)
  have H0 := Lib.hid (And.intro (Box3.new w 27 m a ad) hA)
  clear hA
  cases hv : cgOk m a ad with
  | false =>
    have HV := Lib.hid (And.intro hv (show spOk m a ad d = false by unfold spOk; rw [hv]; rfl))
    clear hv
    rw [HV.out.2]
    go_enter Try.func9, Try.ntmps9
    go_wp2_with fail
    refine (validCg_any _ _ _ _).mono ?_
    rintro e w1 ⟨rfl, hb⟩
    rw [HV.out.1]
    have HB := Lib.hid (bthen H0.out.2 hb)
    clear hb
    go_wp2_with fail
    go_ret3
    exact retSp_no HB.out
  | true =>
    cases hd : inR d 2 3 with
    | false =>
      have HV := Lib.hid (And.intro hv (And.intro hd (show spOk m a ad d = false by unfold spOk; rw [hv, hd]; rfl)))
      clear hv hd
      rw [HV.out.2.2]
      go_enter Try.func9, Try.ntmps9
      go_wp2_with fail
      refine (validCg_any _ _ _ _).mono ?_
      rintro e w1 ⟨rfl, hb⟩
      rw [HV.out.1]
      have HB := Lib.hid (bthen H0.out.2 hb)
      clear hb
      go_wp2_with fail
      refine (inRangeV _ _ _ _).mono ?_
      rintro e w' ⟨rfl, rfl⟩
      rw [HV.out.2.1]
      go_wp2_with fail
      go_ret3
      exact retSp_no HB.out
    | true =>
      have HV := Lib.hid (And.intro hv (And.intro hd (show spOk m a ad d = true by unfold spOk; rw [hv, hd]; rfl)))
      obtain ⟨⟨hm2, hm3⟩, ⟨ha0, ha1⟩, _⟩ := cg_bd hv
      simp only [inR, Bool.and_eq_true, decide_eq_true_eq] at hd
      obtain ⟨D, rfl⟩ := Int.eq_ofNat_of_zero_le (show 0 ≤ d by omega)
      have hD : D = 2 ∨ D = 3 := by omega
      have hD1 : 1 ≤ D := by omega
      have hD4 : D ≤ 4 := by omega
      have hm0 : 0 < m := by omega
      have HK := Lib.hid (ptV_kind (a := a) hm0 hD)
      have HZ := Lib.hid (zeros_toList D)
      have HSET := Lib.hid (ptV_set m hD1)
      have HPL := Lib.hid (ptV_len m hD1)
      obtain ⟨i0, hi, hz0, hz1, hz2⟩ := info_parts Try.infoI
      rw [HV.out.2.2]
      rw [show ((D : Nat) : Int).toNat = D from rfl]
      have hmm : m * m ≤ 10000000000 := Int.mul_le_mul (b := m) (d := 100000) (a := m) (c := 100000) (by omega) (by omega) (by omega) (by omega)
      have HMM := Lib.hid hmm
      clear hv hd hmm
      go_enter Try.func9, Try.ntmps9
      go_wp2_with fail
      refine (validCg_any _ _ _ _).mono ?_
      rintro e w1 ⟨rfl, hb⟩
      rw [HV.out.1]
      have HB3 := Lib.hid (show Box3 w1 w.heap.size m a ad from H0.out.1.gx (b := w.heap.size + 1) (Gx.below hb) (by omega))
      have HBW := Lib.hid (bthen H0.out.2 hb)
      have hlt1 : w.heap.size < w1.heap.size := World.block_lt_of_cell? w1 _ HB3.out.1
      clear hb H0
      obtain ⟨bb, hbb⟩ : ∃ b, w.heap.size = b := ⟨_, rfl⟩
      rw [hbb] at HB3 hlt1 ⊢
      have HBB := Lib.hid hbb
      clear hbb
      obtain ⟨y0, y1, y2⟩ := HB3.out
      go_wp2_with fail
      refine (inRangeV _ _ _ _).mono ?_
      rintro e w' ⟨rfl, rfl⟩
      rw [HV.out.2.1]
      -- the list that has been found, and the first point
      have hA2 := (Below.refl _ w').alloc (Nat.le_refl _) (.cells #[.slice none 0 0, .int .i64 0] 58)
      have HN2 := Lib.hid (And.intro (B2.new w' 58 (.slice none 0 0) (.int .i64 0)) hA2)
      have HB4 := Lib.hid (HB3.out.gx (b := w'.heap.size) (Gx.below hA2) (by omega))
      clear hA2 y0 y1 y2
      obtain ⟨y0, y1, y2⟩ := HB4.out
      go_upto_region 4 with fail
      obtain ⟨bx, hbx⟩ : ∃ b, w'.heap.size = b := ⟨_, rfl⟩
      obtain ⟨W2, hW2⟩ : ∃ x, w'.alloc (.cells #[.slice none 0 0, .int .i64 0] 58) = x := ⟨_, rfl⟩
      rw [hW2] at HN2 HB4 y0 y1 y2 ⊢
      rw [hbx] at HN2 ⊢
      have hbne : bb ≠ bx := by omega
      have HBX := Lib.hid hbx
      have hbxl := HN2.out.1.lt
      clear hW2 hbx
      go_wp2_with (at_make; refine wpList_make_full _ rfl _ _ 24 rfl W2.heap.size 2 i0 (.int .i64 0) 1 Try.underlying24 hi hz0 hz1 _ _ _ _ D rfl rfl ?cL ?cC ?c1 ?c2 ?c3 ?_)
      case cL => rfl
      case cC => rfl
      case c1 => rw [hz2]; omega
      case c2 => unfold maxLen; omega
      case c3 => exact Nat.le_refl _
      intro w3 hown hgrow
      have hB3 : Below W2.heap.size W2 w3 := (Below.refl _ W2).grown hgrow (Nat.le_refl _) (by simp)
      rw [HZ.out] at hown
      have hset := hown.stored (D - 1) (.int .i64 m)
      rw [← List.map_set, HSET.out] at hset
      have HB5 := Lib.hid (HB4.out.gx (b := bx) (Gx.below hB3) hbne)
      have HN3 := Lib.hid (HN2.out.1.all hB3)
      have HGR := Lib.hid hB3
      obtain ⟨g, hg⟩ : ∃ g, W2.heap.size = g := ⟨_, rfl⟩
      rw [hg] at hset hown ⊢
      have hgb : bx < g := by omega
      have HFZ := hown.frozenAt (D - 1)
      have HOWN := Lib.hid hown
      have cc := hown.cellAt (D - 1) (by omega)
      have cc2 : w3.cell? ⟨g, D - 1, none⟩ = some (.int .i64 0) := by
        rw [cc]
        rw [List.getElem?_map, List.getElem?_replicate, if_pos (by omega)]
        rfl
      have HST := Lib.hid hset
      have HGG := Lib.hid hg
      have hDw : IntKind.i64.wrap ((D : Int) - 1) = ((D - 1 : Nat) : Int) := by rw [IntWalk.i64_in _ (by omega)]; omega
      have hD0 : (0 : Int) ≤ ((D - 1 : Nat) : Int) := by omega
      have hDl : ((D - 1 : Nat) : Int) < (D : Int) := by omega
      obtain ⟨D2, hD2⟩ : ∃ D2, D - 1 = D2 := ⟨_, rfl⟩
      rw [hD2] at hDw hD0 hDl cc2 HFZ HST
      have HD2 := Lib.hid hD2
      clear hown hgrow hset hB3 hg cc y0 y1 y2 hD2
      obtain ⟨y0, y1, y2⟩ := HB5.out
      go_wp2_with fail
      have hw4 : Gx w3 (w3.setCell ⟨g, D2, none⟩ (.int .i64 m)) g := Gx.set w3 g D2 _
      have hb4 : Below w.heap.size w (w3.setCell ⟨g, D2, none⟩ (.int .i64 m)) := (bthen (bthen HBW.out (by rw [← HBX.out] at HN2; exact HN2.out.2)) HGR.out).setCell (p := ⟨g, D2, none⟩) (by have := HBB.out; have := HBX.out; show w.heap.size ≤ g; omega) _
      have HOB := Lib.hid (show B2 (w3.setCell ⟨g, D2, none⟩ (.int .i64 m)) bx (.slice none 0 0) (.int .i64 0) from HN3.out.of_same (hw4.block bx HN3.out.lt (fun e => by simp only [Option.some.injEq] at e; omega)))
      have HB6 := Lib.hid (show Box3 (w3.setCell ⟨g, D2, none⟩ (.int .i64 m)) bb m a ad from HB5.out.gx hw4 (by have := HBX.out; omega))
      have HB4w := Lib.hid hb4
      have HI4 := Lib.hid (show IsInts (w3.setCell ⟨g, D2, none⟩ (.int .i64 m)) (some ⟨g, 0, none⟩) D (ptV m D) from IsInts.of_own HST.out.1)
      obtain ⟨w4, hw4e⟩ : ∃ x, w3.setCell ⟨g, D2, none⟩ (.int .i64 m) = x := ⟨_, rfl⟩
      rw [hw4e] at HOB HB6 HB4w HI4 ⊢
      clear hw4 hb4 hw4e HST HB5 HN3 HGR HOWN HN2 HB4 HB3 y0 y1 y2 cc2 HFZ
      have HOF := Lib.hid (offer_any w.heap.size bx D none g 0 D (ptV m D) w4 HB4w.out.size HOB.out HI4.out (sm_of_sq (by rw [HK.out.2]; exact Int.le_refl _) (by omega) (by rw [HPL.out]; omega)) (fun c e => by cases e) hD1 hD4)
      rw [show ofO none (ptV m D) = some (ptV m D) by unfold ofO; rw [HK.out.1.pos]; rfl] at HOF
      refine HOF.out.mono ?_
      rintro e w5 ⟨rfl, hsl, hgx⟩
      have HPI0 := Lib.hid (show PtI w5 w5 w.heap.size bx D a m (ptV m D) (ptV m D) from ⟨hsl, Gx.refl _ _, HK.out.1, geB_refl _⟩)
      have HB7 := Lib.hid (HB6.out.gx hgx hbne)
      have HG45 := Lib.hid hgx
      clear hsl hgx HOF
      go_wp2_with fail
      go_loopw [9] (fun v9 wr => ∃ (x : Nat) (c' : List Int), v9 = .int .i64 (x : Nat) ∧ x ≤ 100001 ∧ Hid (PtI w5 wr w.heap.size bx D a m (ptV m D) c') ∧ Hid (∀ i : Nat, (i : Int) < (x : Int) → Seen (IsPt a m D) c' [(i : Int)])) (fun v9 _ => 100010 - (intOf v9).toNat)
      case atStart => exact ⟨0, _, rfl, by omega, HPI0, Lib.hid (fun i hi => by omega)⟩
      case round =>
        clear HPI0
        obtain ⟨x, c', rfl, hx1, HPI, HSN⟩ := hrel
        have hx0 : (0 : Int) ≤ (x : Int) := by omega
        have HSC := Lib.hid (show sqL c' ≤ m * m by rw [← HK.out.2]; exact geB_sq HPI.out.ge)
        have hsum := HPI.out.sl.sum
        have hscb : 0 ≤ sqL c' ∧ sqL c' ≤ 10000000000 := ⟨sqL_nonneg _, Int.le_trans HSC.out HMM.out⟩
        have hqb : 0 ≤ (x : Int) * (x : Int) ∧ (x : Int) * (x : Int) ≤ 40000000000 := ⟨sq_nn _, Int.mul_le_mul (b := (x : Int)) (d := 200000) (a := (x : Int)) (c := 200000) (by omega) (by omega) hx0 (by omega)⟩
        have hxm : (x : Int) * (x : Int) ≤ 10000000000 → x ≤ 100000 := fun h => by
          by_cases h1 : 100000 < x
          · have := sq_lt (x := 100000) (y := (x : Int)) (by omega)
            omega
          · omega
        have HBX3 := Lib.hid (show Box3 wr bb m a ad from HB7.out.gx HPI.out.gx hbne)
        have HLT := Lib.hid HPI.out.sl.lt
        have HS1 := Lib.hid (sqL_one (x : Int))
        obtain ⟨y0, y1, y2⟩ := HBX3.out
        obtain ⟨q, hq⟩ : ∃ q, (x : Int) * (x : Int) = q := ⟨_, rfl⟩
        obtain ⟨sc, hsc⟩ : ∃ q, sqL c' = q := ⟨_, rfl⟩
        rw [hq] at hqb hxm HS1
        rw [hsc] at hsum hscb
        have HQ := Lib.hid (And.intro hq hsc)
        have hqw : IntKind.i64.wrap q = q := IntWalk.i64_in _ (by omega)
        clear hsc
        by_cases hle : q ≤ sc
        · have hxm2 := hxm (by omega)
          have hxw : IntKind.i64.wrap ((x : Int) + 1) = (x : Int) + 1 := IntWalk.i64_in _ (by omega)
          have hA := (Below.refl _ wr).alloc (Nat.le_refl _) (.cells #[.int .i64 (x : Nat)] 2)
          have hI : IsInts (wr.alloc (.cells #[.int .i64 (x : Nat)] 2)) (some ⟨wr.heap.size, 0, none⟩) 1 [(x : Int)] := by
            refine ⟨rfl, fun j hj => ⟨_, _, rfl, ?_⟩⟩
            obtain rfl : j = 0 := by omega
            have h := heap_at_new wr (.cells #[.int .i64 (x : Nat)] 2)
            simp only [World.cell?, h]; rfl
          have HCA := Lib.hid (points_all w.heap.size bx D a m ad (by omega) (by omega) hD1 hD4 (D - 1) [] (x : Int) c' wr.heap.size 0 1 (wr.alloc (.cells #[.int .i64 (x : Nat)] 2)) (Nat.le_trans HB4w.out.size (Nat.le_trans HG45.out.size (Nat.le_trans HPI.out.gx.size hA.size))) (by simp; omega) (HPI.out.sl.all hA) HPI.out.kd HSC.out hI (by have := HLT.out; omega) (ptL_one _ _ _) (by rw [List.nil_append, HS1.out]; have := HSC.out; have := HQ.out.2; omega))
          rw [List.nil_append, HS1.out, List.length_nil, Nat.zero_add] at HCA
          have HAW := Lib.hid hA
          clear hA hI hxm
          go_wp2_with fail
          refine HCA.out.mono ?_
          rintro e w7 ⟨rfl, c2, hsl, hgx7, hkd, hge, hseen⟩
          have HPI2 := Lib.hid (show PtI w5 w7 w.heap.size bx D a m (ptV m D) c2 from ⟨hsl, HPI.out.gx.trans ((Gx.below HAW.out).trans hgx7), hkd, geB_trans (by rw [hkd.len, HPI.out.kd.len]) (by rw [HPI.out.kd.len, HPL.out]) hge HPI.out.ge⟩)
          have HSN2 := Lib.hid (show ∀ i : Nat, (i : Int) < ((x + 1 : Nat) : Int) → Seen (IsPt a m D) c2 [(i : Int)] from fun i hi => by
            by_cases h : i = x
            · rw [h]; exact hseen
            · exact (HSN.out i (by omega)).mono IsPt.hl hkd.len HPI.out.kd.len hge)
          clear hsl hgx7 hkd hge hseen
          go_wp2_with fail
          go_roundw
          case rel => exact ⟨x + 1, c2, by go_num, by omega, HPI2, HSN2⟩
          case measure => simp [intOf] <;> omega
        · have HBEST := Lib.hid (best_first (by omega) HPI.out.kd hx0 (by rw [HQ.out.1, HQ.out.2]; omega) HSN.out)
          obtain ⟨g9, cap9, hb9, hown9⟩ := HPI.out.sl
          have HGR := Lib.hid (show GrowAt w wr 2 (.slice (some ⟨g9, 0, none⟩) D cap9) D (c'.map (Value.int .i64)) from ⟨hown9, HB4w.out.trans ((HG45.out.trans HPI.out.gx).out HB4w.out.size (by have := HBX.out; have := HBB.out; omega))⟩)
          have HCL := Lib.hid HPI.out.kd.len
          rw [HQ.out.2] at hb9
          obtain ⟨z0, z1, z2, z3, z4⟩ := hb9
          clear hown9 hxm
          go_wp2_with fail
          go_quiet (fail)
          go_wp2
          go_ret3
          rw [← HQ.out.2]
          exact retSp_yes HBEST.out HCL.out (HGR.out.ret (drewN_below _ _))
end Go.Proofs.Ytpineiocjaajnaa

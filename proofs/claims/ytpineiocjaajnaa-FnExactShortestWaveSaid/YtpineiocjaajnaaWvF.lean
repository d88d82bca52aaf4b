import Derived.Test.YtpineiocjaajnaaWvT
import Derived.Test.YtpineiocjaajnaaShP
import Derived.Lib.AppendZerosOnto
/- The reference's shortest wave. Condition: the congruence is valid and the dimension is from 2 to 4. -/
namespace Go.Proofs.Ytpineiocjaajnaa
open Go.RowKit
set_option linter.unusedVariables false

theorem gset {w0 wr : World} {E : TypeId} {g n c : Nat} {xs : List Int} (h : GrowAt w0 wr E (.slice (some ⟨g, 0, none⟩) n c) n (xs.map (Value.int .i64))) (j : Nat) (u : Int) : GrowAt w0 (wr.setCell ⟨g, j, none⟩ (.int .i64 u)) E (.slice (some ⟨g, 0, none⟩) n c) n ((xs.set j u).map (Value.int .i64)) := by
  have hst := h.1.stored j (.int .i64 u)
  rw [← List.map_set] at hst
  exact ⟨hst.1, below_grown h.2 h.1 (by simpa [Value.ownBlock] using hst.2) h.2.size⟩
/-- An address outside a block. -/
def Out (g : Nat) (a : Option Addr) : Prop := ∀ off, a ≠ some ⟨g, off, none⟩
theorem out_new {g B : Nat} (h : g < B) : ∀ b off, B ≤ b → Out g (some ⟨b, off, none⟩) := fun b off hb o e => by
  simp only [Option.some.injEq, Addr.mk.injEq] at e; omega
theorem out_none (g : Nat) : Out g none := fun o e => by cases e
theorem ints_out {w : World} {g : Nat} {a : Option Addr} {n : Nat} {zs : List Int} (h : IsInts w a n zs) (ho : Out g a) (j : Nat) (u : Value) : IsInts (w.setCell ⟨g, j, none⟩ u) a n zs := by
  refine ⟨h.1, fun i hi => ?_⟩
  obtain ⟨b, o, e, hc⟩ := h.2 i hi
  refine ⟨b, o, e, ?_⟩
  have hne : b ≠ g := fun h => ho o (by rw [e, h])
  rw [World.cell?_setCell_other _ _ _ _ (by simp)]
  exact hc
theorem set_mid (p : List Int) (x v : Int) (t : List Int) : (p ++ x :: t).set p.length v = p ++ v :: t := by simp
theorem getD_mid (p : List Int) (x : Int) (t : List Int) : (p ++ x :: t).getD p.length 0 = x := by simp [List.getD]
theorem rep_of {xs : List Int} {v : Int} {n : Nat} (hl : xs.length = n) (h : ∀ j, j < n → xs.getD j 0 = v) : xs = List.replicate n v := by
  refine ext_getD (by simpa using hl) fun j hj => ?_
  rw [h j (by omega), List.getD, List.getElem?_replicate, if_pos (by omega)]; rfl
theorem sm_box {far m z : Int} {xs : List Int} (hf : 0 ≤ far ∧ far ≤ 1000000) (hl : xs.length ≤ 3) (hb : inBox far xs) (hz : -1000000 ≤ z ∧ z ≤ 1000000) : SmL (z :: xs) := by
  refine ⟨by simp; omega, fun j => ?_⟩
  cases j with
  | zero => exact hz
  | succ j =>
    show -1000000 ≤ xs.getD j 0 ∧ xs.getD j 0 ≤ 1000000
    by_cases hj : j < xs.length
    · have := hb (xs.getD j 0) (by rw [getD_eq _ _ hj]; exact List.getElem_mem _)
      omega
    · rw [List.getD, List.getElem?_eq_none (by omega)]; simp
theorem two_bd {n m z : Int} (hm : 0 < m) (h : z ∈ twoM n m) : -m ≤ z ∧ z ≤ m := by
  have h1 := twoM_abs h
  have h2 := nearM_bd n m hm
  omega
theorem drop_last {p : List Int} (h : p ≠ []) : ∃ q x, p = q ++ [x] := ⟨_, _, (List.dropLast_concat_getLast h).symm⟩
theorem news_of' {w w' : World} {g off n : Nat} {xs : List Int} (hx : IsInts w (some ⟨g, off, none⟩) n xs) (hb : Below w.heap.size w w') : ∀ j u, (xs.map (Value.int .i64))[j]? = some u → w'.cell? ((⟨g, off, none⟩ : Addr).add j) = some u := by
  intro j u hu
  have hj : j < n := by
    have := (List.getElem?_eq_some_iff.1 hu).1
    rw [List.length_map, hx.1] at this
    exact this
  obtain ⟨b', f', e, hc⟩ := (hx.below hb).at hj
  simp only [Option.some.injEq, Addr.mk.injEq] at e
  obtain ⟨rfl, rfl, _⟩ := e
  have hplain : (⟨g, off, none⟩ : Addr).add j = ⟨g, off + j, none⟩ := by unfold Addr.add; split <;> simp_all
  rw [hplain, hc, ← hu]
  simp [List.getD, List.getElem?_eq_getElem (show j < xs.length by rw [hx.1]; exact hj)]
theorem one_cell' (xs : List Int) : ∀ u ∈ xs.map (Value.int .i64), u.oneCell' = true := by
  intro u hu
  obtain ⟨d, _, rfl⟩ := List.mem_map.1 hu
  rfl
def mxI (a b : Int) : Int := if b < a then a else b
theorem l00MaxI_any (a b : Int) (w : World) : Calls Try.prog 65 #[.int .i64 a, .int .i64 b] w fun e w' => e = .returned (.int .i64 (mxI a b)) ∧ w' = w := by
  by_cases h : b < a
  · rw [show mxI a b = a from if_pos h]
    go_enter Try.func65, Try.ntmps65
    go_wp2
    go_ret
    exact ⟨rfl, rfl⟩
  · rw [show mxI a b = b from if_neg h]
    go_enter Try.func65, Try.ntmps65
    go_wp2
    go_ret
    exact ⟨rfl, rfl⟩
theorem mx_abs (x : Int) : mxI x (-x) = (x.natAbs : Int) := by unfold mxI; split <;> omega
theorem mx_gr (g x : Int) : mxI g (x.natAbs : Int) = if g < (x.natAbs : Int) then (x.natAbs : Int) else g := by unfold mxI; split <;> split <;> omega
set_option maxRecDepth 100000 in
set_option maxHeartbeats 3200000 in
theorem l03Shell_any (b3 : Nat) (m a ad : Int) (n : Nat) (far : Int) (ac0 : Option Addr) (cc0 : Nat) (c0 : List Int) (w : World) (hm : 2 ≤ m ∧ m ≤ 100000) (ha : 0 ≤ a ∧ a < m) (hn : 1 ≤ n ∧ n ≤ 3) (hfar : 1 ≤ far ∧ far ≤ 100000) (hg : G3 w b3 m a ad) (hc : IsInts w ac0 (n + 1) c0) (hk : IsWv a m (n + 1) c0) (hq : sqL c0 ≤ m * m) :
    Calls Try.prog 62 #[.pointer (some ⟨b3, 0, none⟩), .int .i64 ((n + 1 : Nat) : Int), .int .i64 far, .slice ac0 (n + 1) cc0] w fun e w' => ∃ c aa cc, e = .returned (.slice aa (n + 1) cc) ∧ IsInts w' aa (n + 1) c ∧ Below w.heap.size w w' ∧ IsWv a m (n + 1) c ∧ geB c c0 ∧ ∀ v, IsWv a m (n + 1) v → (∃ s r, v = s :: r ∧ grF 0 r = far) → geB c v := by
  have HG := Lib.hid hg
  have HC := Lib.hid hc
  have HK := Lib.hid (And.intro hk hq)
  have m0 : ¬ m = 0 := by omega
  have m1 : ¬ m = -1 := by omega
  have mb : (m == 0) = false := by simpa using m0
  have hm0 : 0 < m := by omega
  have hnegf : IntKind.i64.wrap (-far) = -far := IntWalk.i64_in _ (by omega)
  have hDn : IntKind.i64.wrap (((n + 1 : Nat) : Int) - 1) = (n : Int) := by rw [IntWalk.i64_in _ (by omega)]; omega
  have HZ := Lib.hid (zeros_toList n)
  obtain ⟨i0, hi, hz0, hz1, hz2⟩ := info_parts Try.infoI
  obtain ⟨M, hM⟩ : ∃ M, (2 * far + 1).toNat ^ n = M := ⟨_, rfl⟩
  have HM := Lib.hid hM
  obtain ⟨D, hD⟩ : ∃ D, n + 1 = D := ⟨_, rfl⟩
  have HD := Lib.hid hD
  rw [hD] at HC HK hDn ⊢
  have hD4 : D ≤ 4 := by omega
  clear hg hc hk hq hM hD
  go_enter Try.func62, Try.ntmps62
  go_wp2_with (at_make; refine wpList_make_full _ rfl _ _ 24 rfl w.heap.size 2 i0 (.int .i64 0) 1 Try.underlying24 hi hz0 hz1 _ _ _ _ n rfl rfl ?cL ?cC ?c1 ?c2 ?c3 ?_)
  case cL => rfl
  case cC => rfl
  case c1 => rw [hz2]; omega
  case c2 => unfold maxLen; omega
  case c3 => exact Nat.le_refl _
  intro w3 hown hgrow
  have hB3 : Below w.heap.size w w3 := (Below.refl _ w).grown hgrow (Nat.le_refl _) (by simp)
  rw [HZ.out] at hown
  have HGR := Lib.hid (show GrowAt w w3 2 (.slice (some ⟨w.heap.size, 0, none⟩) n n) n ((List.replicate n (0 : Int)).map (Value.int .i64)) from ⟨hown, hB3⟩)
  clear hown hgrow hB3
  obtain ⟨g, hgg⟩ : ∃ g, w.heap.size = g := ⟨_, rfl⟩
  rw [hgg] at HGR ⊢
  have HGG := Lib.hid hgg
  clear hgg hi hz0 hz1 hz2
  go_wp2_with fail
  go_loopw [10] (fun v10 wr => ∃ (i : Nat) (xs : List Int), v10 = .int .i64 (i : Nat) ∧ i ≤ n ∧ Hid (xs.length = n ∧ ∀ j, j < i → xs.getD j 0 = -far) ∧ Hid (GrowAt w wr 2 (.slice (some ⟨g, 0, none⟩) n n) n (xs.map (Value.int .i64)))) (fun v10 _ => n - (intOf v10).toNat)
  case atStart => exact ⟨0, _, rfl, by omega, Lib.hid ⟨by simp, fun j hj => absurd hj (Nat.not_lt_zero j)⟩, HGR⟩
  case round =>
    clear HGR
    obtain ⟨i, xs, rfl, hin, HXL, HGR⟩ := hrel
    have hi0 : (0 : Int) ≤ (i : Int) := by omega
    by_cases hlt : i < n
    · have hil : (i : Int) < (n : Int) := by omega
      have cc : wr.cell? ⟨g, i, none⟩ = some (.int .i64 (xs.getD i 0)) := by
        obtain ⟨b, o, e, h⟩ := (IsInts.of_own HGR.out.1).at hlt
        simp only [Option.some.injEq, Addr.mk.injEq] at e
        obtain ⟨rfl, rfl, _⟩ := e
        simpa using h
      have cf := HGR.out.1.frozenAt i
      have HGR2 := Lib.hid (gset HGR.out i (-far))
      have HXL2 := Lib.hid (show (xs.set i (-far)).length = n ∧ ∀ j, j < i + 1 → (xs.set i (-far)).getD j 0 = -far from ⟨by rw [List.length_set]; exact HXL.out.1, fun j hj => by
        by_cases h : j = i
        · subst h
          rw [List.getD, List.getElem?_set_self (by rw [HXL.out.1]; exact hlt)]; rfl
        · rw [List.getD, List.getElem?_set_ne (by omega), ← List.getD]; exact HXL.out.2 j (by omega)⟩)
      obtain ⟨z, hz⟩ : ∃ z, xs.getD i 0 = z := ⟨_, rfl⟩
      rw [hz] at cc
      clear hz
      go_wp2_with fail
      go_roundw
      case rel => exact ⟨i + 1, _, by go_num, by omega, HXL2, HGR2⟩
      case measure => simp [intOf] <;> omega
    · obtain rfl : i = n := by omega
      have hil : ¬ (i : Int) < (i : Int) := by omega
      have hxs : xs = List.replicate i (-far) := rep_of HXL.out.1 HXL.out.2
      have HS0 := Lib.hid (show ShK a m D far c0 c0 xs by rw [hxs]; exact ShK.start HD.out (by omega) HK.out.1)
      have HR0 := Lib.hid (show rkL far xs + M = M by rw [hxs, rkL_low]; omega)
      have HI0 := Lib.hid (show IsInts wr ac0 D c0 from HC.out.below HGR.out.2)
      have HO0 := Lib.hid (show Out g ac0 from fun o e => by
        obtain ⟨b, o', e', h⟩ := HC.out.at (show 0 < D by have := HD.out; omega)
        rw [e] at e'
        simp only [Option.some.injEq, Addr.mk.injEq] at e'
        have := World.block_lt_of_cell? w _ h
        have := HGG.out
        simp only at *
        omega)
      clear hxs hil
      obtain ⟨n, rfl⟩ : ∃ z, z = i := ⟨_, rfl⟩
      go_wp2_with fail
      go_loopg [3] M (fun gh v3 wr => ∃ (xs c : List Int) (ac : Option Addr) (cc : Nat), v3 = .slice ac D cc ∧ Hid (rkL far xs + gh = M) ∧ Hid (ShK a m D far c0 c xs) ∧ Hid (IsInts wr ac D c) ∧ Hid (Out g ac) ∧ Hid (GrowAt w wr 2 (.slice (some ⟨g, 0, none⟩) n n) n (xs.map (Value.int .i64))))
      case atStart => exact ⟨xs, c0, ac0, cc0, rfl, HR0, HS0, HI0, HO0, HGR⟩
      case round =>
        clear HR0 HS0 HI0 HO0 HGR HXL
        obtain ⟨xs, c, ac, cc, rfl, HRK, HSK, HIC, HOC, HGR⟩ := hrel
        obtain ⟨w1, rfl⟩ : ∃ z, z = wr := ⟨_, rfl⟩
        have HXL := Lib.hid (show xs.length = n by have := HSK.out.len; have := HD.out; omega)
        have HIX := Lib.hid (show IsInts w1 (some ⟨g, 0, none⟩) n xs from IsInts.of_own HGR.out.1)
        have HG1 := Lib.hid (HG.out.all HGR.out.2)
        go_wp2_with fail
        go_loopw [14, 13, 12, 11] (fun v14 v13 v12 v11 wr => ∃ (i : Nat) (S pw gr : Int), v14 = .int .i64 (i : Nat) ∧ v13 = .int .i64 pw ∧ v12 = .int .i64 S ∧ v11 = .int .i64 gr ∧ i ≤ n ∧ 0 ≤ pw ∧ pw < m ∧ -(10000000000 * (i : Int)) ≤ S ∧ S ≤ 10000000000 * (i : Int) ∧ Hid (pw = pwM a m i ∧ S = wS a m 0 (xs.take i) ∧ gr = grF 0 (xs.take i)) ∧ Hid (Below w1.heap.size w1 wr)) (fun v14 _ _ _ _ => n - (intOf v14).toNat)
        case atStart => exact ⟨0, 0, 1, 0, rfl, rfl, rfl, rfl, by omega, by omega, by omega, by omega, by omega, Lib.hid ⟨rfl, by simp [wS], by simp [grF]⟩, Lib.hid (Below.refl _ _)⟩
        case round =>
          obtain ⟨i, S, pw, gr, rfl, rfl, rfl, rfl, hin, hp0, hp1, hS0, hS1, HV, HBW⟩ := hrel
          have hi0 : (0 : Int) ≤ (i : Int) := by omega
          by_cases hlt : i < n
          · have hil : (i : Int) < (n : Int) := by omega
            have hxb := HSK.out.box (xs.getD i 0) (by rw [getD_eq _ _ (by rw [HXL.out]; exact hlt)]; exact List.getElem_mem _)
            have htk := take_snoc xs i (by rw [HXL.out]; exact hlt)
            have hcell : wr.cell? ⟨g, i, none⟩ = some (.int .i64 (xs.getD i 0)) := by
              obtain ⟨b, o, e, h⟩ := (HIX.out.below HBW.out).at hlt
              simp only [Option.some.injEq, Addr.mk.injEq] at e
              obtain ⟨rfl, rfl, _⟩ := e
              simpa using h
            obtain ⟨x, hx⟩ : ∃ x, xs.getD i 0 = x := ⟨_, rfl⟩
            rw [hx] at hxb htk hcell
            have hxn : IntKind.i64.wrap (-x) = -x := IntWalk.i64_in _ (by omega)
            have HM1 := Lib.hid (fun w => l00MaxI_any x (-x) w)
            rw [mx_abs] at HM1
            have HM2 := Lib.hid (fun w => l00MaxI_any gr (x.natAbs : Int) w)
            have hgr2 : mxI gr (x.natAbs : Int) = grF 0 (xs.take (i + 1)) := by rw [mx_gr, htk, grF_push, ← HV.out.2.2]
            obtain ⟨ax, hax⟩ : ∃ y, ((x.natAbs : Nat) : Int) = y := ⟨_, rfl⟩
            rw [hax] at HM1 HM2 hgr2
            obtain ⟨gr2, hgr2e⟩ : ∃ y, mxI gr ax = y := ⟨_, rfl⟩
            rw [hgr2e] at HM2 hgr2
            have hpb2 := pwM_bd (a := a) (m := m) (by omega) (i + 1)
            have hpp : pwM a m (i + 1) = (pw * a) % m := by rw [HV.out.1]; rfl
            obtain ⟨p2, hp2⟩ : ∃ p, pwM a m (i + 1) = p := ⟨_, rfl⟩
            have hpa0 : 0 ≤ pw * a ∧ pw * a ≤ 10000000000 := ⟨Int.mul_nonneg hp0 (by omega), Int.mul_le_mul (b := a) (d := 100000) (a := pw) (c := 100000) (by omega) (by omega) (by omega) (by omega)⟩
            rw [hp2] at hpb2 hpp
            have hpt : (pw * a).tmod m = p2 := by rw [Int.tmod_eq_emod_of_nonneg hpa0.1, hpp]
            obtain ⟨pa, hpa⟩ : ∃ t, pw * a = t := ⟨_, rfl⟩
            rw [hpa] at hpa0 hpt
            have hpaw : IntKind.i64.wrap pa = pa := IntWalk.i64_in _ (by omega)
            have hp2w : IntKind.i64.wrap p2 = p2 := IntWalk.i64_in _ (by omega)
            have hpx : -10000000000 ≤ p2 * x ∧ p2 * x ≤ 10000000000 := by
              have h1 : p2 * x ≤ p2 * 100000 := Int.mul_le_mul_of_nonneg_left (by omega) hpb2.1
              have h2 : p2 * (-100000) ≤ p2 * x := Int.mul_le_mul_of_nonneg_left (by omega) hpb2.1
              omega
            have hS2 : S + p2 * x = wS a m 0 (xs.take (i + 1)) := by
              rw [htk, wS_push, ← HV.out.2.1, List.length_take, Nat.min_eq_left (by have := HXL.out; omega), show 0 + i + 1 = i + 1 by omega, hp2]
            obtain ⟨px, hpxe⟩ : ∃ t, p2 * x = t := ⟨_, rfl⟩
            rw [hpxe] at hpx hS2
            have hpxw : IntKind.i64.wrap px = px := IntWalk.i64_in _ (by omega)
            have hSw : IntKind.i64.wrap (S + px) = S + px := IntWalk.i64_in _ (by omega)
            have HV2 := Lib.hid (show p2 = pwM a m (i + 1) ∧ S + px = wS a m 0 (xs.take (i + 1)) ∧ gr2 = grF 0 (xs.take (i + 1)) from ⟨hp2.symm, hS2, hgr2⟩)
            have HCL := Lib.hid hcell
            have HG2 := Lib.hid (HG1.out.all HBW.out)
            clear hx htk hgr2 hgr2e hax hpp hp2 hS2
            go_upto_region 12 with fail
            go_quiet ((go_at_call 65; (first | (with_reducible exact Calls.quiet_of_same (HM1.out _)) | (with_reducible exact Calls.quiet_of_same (HM2.out _)))))
            have HB1 := Lib.hid (bthen HBW.out (drewN_below wr nq))
            have hc1 : (wr.drewN nq).cell? ⟨g, i, none⟩ = some (.int .i64 x) := ((drewN_below wr nq).cell (p := ⟨g, i, none⟩) (World.block_lt_of_cell? wr _ HCL.out)).trans HCL.out
            have HG3 := Lib.hid (HG2.out.all (drewN_below wr nq))
            obtain ⟨w2, hw2⟩ : ∃ z, wr.drewN nq = z := ⟨_, rfl⟩
            rw [hw2] at HB1 hc1 HG3 ⊢
            clear hw2 hcell HM1 HM2
            obtain ⟨y0, y1, y2, y3⟩ := HG3.out
            go_upto_region 13 with fail
            go_quiet (fail)
            have HB2 := Lib.hid (bthen HB1.out (drewN_below w2 nq))
            have hc2 : (w2.drewN nq).cell? ⟨g, i, none⟩ = some (.int .i64 x) := ((drewN_below w2 nq).cell (p := ⟨g, i, none⟩) (World.block_lt_of_cell? w2 _ hc1)).trans hc1
            obtain ⟨w3, hw3⟩ : ∃ z, w2.drewN nq = z := ⟨_, rfl⟩
            rw [hw3] at HB2 hc2 ⊢
            clear hw3 hc1 y0 y1 y2 y3
            go_wp2_with fail
            go_roundw
            case rel => exact ⟨i + 1, _, _, _, by go_num, rfl, rfl, rfl, by omega, hpb2.1, hpb2.2, by omega, by omega, HV2, HB2⟩
            case measure => simp [intOf] <;> omega
          · obtain rfl : i = n := by omega
            have hil : ¬ (i : Int) < (i : Int) := by omega
            obtain ⟨n, rfl⟩ : ∃ z, z = i := ⟨_, rfl⟩
            have hgr : gr = grF 0 xs := by rw [HV.out.2.2, List.take_of_length_le (by have := HXL.out; omega)]
            have hSe : S = wS a m 0 xs := by rw [HV.out.2.1, List.take_of_length_le (by have := HXL.out; omega)]
            have HGR2 := Lib.hid (HGR.out.ret HBW.out)
            have HIC2 := Lib.hid (HIC.out.below HBW.out)
            have HG2 := Lib.hid (HG1.out.all HBW.out)
            by_cases hgf : gr = far
            · have hgb : (gr == far) = true := by simpa using hgf
              have HGF := Lib.hid (show grF 0 xs = far by rw [← hgr]; exact hgf)
              have hSn : IntKind.i64.wrap (-S) = -S := IntWalk.i64_in _ (by omega)
              have HT := Lib.hid (fun w => two_any (-S) m w hm0 (by omega))
              have htl : (twoM (-S) m).length ≤ 2 := by unfold twoM; split <;> simp
              have htb := fun z (hz : z ∈ twoM (-S) m) => two_bd hm0 hz
              have HSE := Lib.hid (show twoM (-S) m = twoM (-wS a m 0 xs) m by rw [hSe])
              obtain ⟨T, hT⟩ : ∃ T, twoM (-S) m = T := ⟨_, rfl⟩
              rw [hT] at HT htl htb HSE
              obtain ⟨tn, htn⟩ : ∃ t, T.length = t := ⟨_, rfl⟩
              have HTN := Lib.hid htn
              have HTB := Lib.hid htb
              rw [htn] at htl
              clear hgf hgr hSe hT htn htb HV HIC HGR
              obtain ⟨y0, y1, y2, y3⟩ := HG2.out
              obtain ⟨w4, rfl⟩ : ∃ z, z = wr := ⟨_, rfl⟩
              go_wp2_with fail
              refine (HT.out _).mono ?_
              rintro e w5 ⟨ct, rfl, hti, hb⟩
              rw [HTN.out] at hti ⊢
              have HTI := Lib.hid hti
              have HGR5 := Lib.hid (HGR2.out.ret hb)
              have HIC5 := Lib.hid (HIC2.out.below hb)
              obtain ⟨tb, htbe⟩ : ∃ b, w4.heap.size = b := ⟨_, rfl⟩
              rw [htbe] at HTI ⊢
              clear hti hb htbe y0 y1 y2 y3 HGR2 HIC2 HG2
              have HST0 := Lib.hid (show ShT a m D c c (T.take 0) xs from ShT.start HSK.out.kd)
              go_wp2_with fail
              go_loopw [16, 3] (fun v16 v3 wr => ∃ (j : Nat) (c2 : List Int) (a2 : Option Addr) (k2 : Nat), v16 = .int .i64 (j : Nat) ∧ v3 = .slice a2 D k2 ∧ j ≤ tn ∧ Hid (ShT a m D c c2 (T.take j) xs) ∧ Hid (IsInts wr a2 D c2) ∧ Hid (Out g a2) ∧ Hid (Below w5.heap.size w5 wr)) (fun v16 _ _ => tn - (intOf v16).toNat)
              case atStart => exact ⟨0, c, ac, cc, rfl, rfl, by omega, HST0, HIC5, HOC, Lib.hid (Below.refl _ _)⟩
              case round =>
                clear HST0
                obtain ⟨j, c2, a2, k2, rfl, rfl, hjt, HST, HI2, HO2, HB5⟩ := hrel
                have hj0 : (0 : Int) ≤ (j : Int) := by omega
                by_cases hjl : j < tn
                · have hji : (j : Int) < (tn : Int) := by omega
                  have hzm : T.getD j 0 ∈ T := by rw [getD_eq _ _ (by rw [HTN.out]; exact hjl)]; exact List.getElem_mem _
                  have hzb := HTB.out _ hzm
                  have HTK := Lib.hid (take_snoc T j (by rw [HTN.out]; exact hjl))
                  have hcell : wr.cell? ⟨tb, j, none⟩ = some (.int .i64 (T.getD j 0)) := by
                    obtain ⟨b, o, e, h⟩ := (HTI.out.below HB5.out).at hjl
                    simp only [Option.some.injEq, Addr.mk.injEq] at e
                    obtain ⟨rfl, rfl, _⟩ := e
                    simpa using h
                  obtain ⟨z, hz⟩ : ∃ z, T.getD j 0 = z := ⟨_, rfl⟩
                  rw [hz] at hzm hzb HTK hcell
                  have HZM := Lib.hid (show z ∈ twoM (-wS a m 0 xs) m by rw [← HSE.out]; exact hzm)
                  have HSMZ := Lib.hid (show SmL (z :: xs) from sm_box (far := far) (m := m) (by omega) (by rw [HXL.out]; omega) HSK.out.box (by omega))
                  have HSM2 := Lib.hid (show SmL c2 from sm_of_sq (Int.le_trans (geB_sq HST.out.ge) (Int.le_trans (geB_sq HSK.out.ge) HK.out.2)) (by omega) (by rw [HST.out.kd.wa.len]; omega))
                  have HST2 := Lib.hid (show ShT a m D c (bestR c2 (z :: xs)) (T.take (j + 1)) xs by rw [HTK.out]; exact HST.out.step HSK.out.kd HSK.out.len HZM.out (far_nz hfar.1 HGF.out))
                  have HON := Lib.hid (GrowAt.one wr z)
                  have HIXr := Lib.hid (show IsInts wr (some ⟨g, 0, none⟩) n xs from (IsInts.of_own HGR5.out.1).below HB5.out)
                  have HNW := Lib.hid (news_of' HIXr.out HON.out.2)
                  have HGL := Lib.hid (show g < wr.heap.size from World.block_lt_of_cell? wr ⟨g, 0, none⟩ (by
                    obtain ⟨b, o, e, h⟩ := HIXr.out.at (show 0 < n by omega)
                    simp only [Option.some.injEq, Addr.mk.injEq] at e
                    obtain ⟨rfl, rfl, _⟩ := e
                    exact h))
                  clear hz hzm
                  obtain ⟨i0, hi, hz0, hz1, hz2⟩ := info_parts Try.infoI
                  go_wp2_with (at_builtin; refine wpList_append_own _ rfl (.tmp 90) (.tmp 91) 24 rfl wr.heap.size 2 i0 (.int .i64 0) 1 8 Try.underlying24 hi hz0 hz1 hz2 rfl (by decide) _ 1 ([z].map (Value.int .i64)) rfl HON.out.1 ⟨g, 0, none⟩ n n (xs.map (Value.int .i64)) rfl ?cl HNW.out (one_cell' _) ?c1 ?c2 ?c3 ?_)
                  case cl => rw [List.length_map, HXL.out]; omega
                  case c1 => unfold maxLen; omega
                  case c2 => omega
                  case c3 => exact HON.out.2.size
                  intro v' w6 hown hgrow _
                  have hB6 := below_grown HON.out.2 HON.out.1 hgrow HON.out.2.size
                  have hown2 : w6.ownsRow wr.heap.size 2 1 v' D ((z :: xs).map (Value.int .i64)) := by
                    rw [show D = 1 + n by have := HD.out; omega]; exact hown
                  obtain ⟨g6, c6, rfl⟩ := own_first hown2 (by have := HD.out; omega)
                  have hg6 := (hown2.lt g6 rfl).1
                  have HI6 := Lib.hid (show IsInts w6 (some ⟨g6, 0, none⟩) (z :: xs).length (z :: xs) by rw [List.length_cons, HSK.out.len]; exact IsInts.of_own hown2)
                  have HB6 := Lib.hid hB6
                  have HI26 := Lib.hid (show IsInts w6 a2 c2.length c2 by rw [HST.out.kd.wa.len]; exact HI2.out.below hB6)
                  have HBA := Lib.hid (best_av (Out g) a2 (some ⟨g6, 0, none⟩) k2 c6 c2 (z :: xs) w6 (out_new (by have := HGL.out; have := hB6.size; omega)) (out_none g) HO2.out (out_new (B := g + 1) (by omega) _ _ (by have := HGL.out; omega)) HI26.out HI6.out HSM2.out HSMZ.out (Or.inr (by rw [HST.out.kd.wa.len, List.length_cons, HSK.out.len])))
                  rw [HST.out.kd.wa.len, List.length_cons, HSK.out.len] at HBA
                  clear hown hgrow hown2 hg6 hB6
                  go_wp2_with fail
                  refine HBA.out.mono ?_
                  rintro e w7 ⟨a7, k7, rfl, h7, hb7, ho7⟩
                  rw [HST2.out.kd.wa.len] at h7 ⊢
                  have HI7 := Lib.hid h7
                  have HO7 := Lib.hid ho7
                  have HB7 := Lib.hid (bthen HB5.out (bthen HB6.out hb7))
                  clear h7 ho7 hb7
                  go_wp2_with fail
                  go_roundw
                  case rel => exact ⟨j + 1, _, a7, k7, by go_num, rfl, by omega, HST2, HI7, HO7, HB7⟩
                  case measure => simp [intOf] <;> omega
                · obtain rfl : j = tn := by omega
                  have hji : ¬ (j : Int) < (j : Int) := by omega
                  have HNOW := Lib.hid (show nowS a m D far c2 xs from by
                    have h := HST.out
                    rw [List.take_of_length_le (by rw [HTN.out]; omega), HSE.out] at h
                    exact h.now hm0 hfar.1)
                  have HKC := Lib.hid (show IsWv a m D c2 ∧ geB c2 c from ⟨HST.out.kd, HST.out.ge⟩)
                  have HGRC := Lib.hid (HGR5.out.ret HB5.out)
                  go_wp2_with fail
                  have HP0 := Lib.hid (show xs = xs ++ List.replicate 0 far ∧ xs = xs ++ List.replicate 0 (-far) from ⟨by simp, by simp⟩)
                  have hx17 : IntKind.i64.wrap ((n : Int) - 1) = (n : Int) - 1 := IntWalk.i64_in _ (by omega)
                  go_loopw [17] (fun v17 wr => ∃ (p ys : List Int) (k : Nat), v17 = .int .i64 ((p.length : Nat) - 1 : Int) ∧ p.length ≤ n ∧ Hid (xs = p ++ List.replicate k far ∧ ys = p ++ List.replicate k (-far)) ∧ Hid (IsInts wr a2 D c2) ∧ Hid (GrowAt w wr 2 (.slice (some ⟨g, 0, none⟩) n n) n (ys.map (Value.int .i64)))) (fun v17 _ => (intOf v17 + 1).toNat)
                  case atStart => exact ⟨xs, xs, 0, by rw [HXL.out], by rw [HXL.out]; omega, HP0, HI2, HGRC⟩
                  case round =>
                    clear HP0 HGRC HI2
                    obtain ⟨p, ys, k, rfl, hpn, HP, HI2, HGRC⟩ := hrel
                    by_cases hp : p = []
                    · subst hp
                      have HDN := Lib.hid ((show ShK a m D far c0 c (List.replicate k far) from by have h := HSK.out; rw [HP.out.1, List.nil_append] at h; exact h).done HKC.out.1 HKC.out.2 (by have h := HNOW.out; rw [HP.out.1, List.nil_append] at h; exact h))
                      rw [show (([] : List Int).length : Int) - 1 = -1 from rfl]
                      go_wp2_with fail
                      go_ret
                      exact ⟨c2, a2, k2, rfl, HI2.out, HGRC.out.2, HKC.out.1, HDN.out.1, HDN.out.2⟩
                    · obtain ⟨q, x, rfl⟩ := drop_last hp
                      have hql : (q ++ [x]).length = q.length + 1 := by simp
                      rw [hql] at hpn ⊢
                      rw [show ((q.length + 1 : Nat) : Int) - 1 = (q.length : Int) by omega]
                      have hyq : ys = q ++ x :: List.replicate k (-far) := by rw [HP.out.2, List.append_assoc]; rfl
                      have hxq : xs = q ++ x :: List.replicate k far := by rw [HP.out.1, List.append_assoc]; rfl
                      have HPX := Lib.hid (And.intro hxq hyq)
                      have hxb := HSK.out.box x (by rw [hxq]; simp)
                      have hlt : q.length < n := by omega
                      have hcell : wr.cell? ⟨g, q.length, none⟩ = some (.int .i64 x) := by
                        obtain ⟨b, o, e, h⟩ := (IsInts.of_own HGRC.out.1).at hlt
                        simp only [Option.some.injEq, Addr.mk.injEq] at e
                        obtain ⟨rfl, rfl, _⟩ := e
                        rw [hyq, getD_mid] at h
                        simpa using h
                      have cf := HGRC.out.1.frozenAt q.length
                      have HQM := Lib.hid (fun v => show ys.set q.length v = q ++ v :: List.replicate k (-far) by rw [hyq, set_mid])
                      have HQL := Lib.hid (show q.length < n from hlt)
                      obtain ⟨s, hs⟩ : ∃ s, q.length = s := ⟨_, rfl⟩
                      have HQS := Lib.hid hs
                      rw [hs] at hcell cf HQM hlt hpn ⊢
                      have hs0 : (0 : Int) ≤ (s : Int) := by omega
                      have hs1 : (s : Int) < (n : Int) := by omega
                      have hsw : IntKind.i64.wrap ((s : Int) - 1) = (s : Int) - 1 := IntWalk.i64_in _ (by omega)
                      clear hp hql hyq hxq hs
                      by_cases hxf : x = far
                      · have hxfb : (x == far) = true := by simpa using hxf
                        have HG6 := Lib.hid (gset HGRC.out s (-far))
                        rw [HQM.out] at HG6
                        have HI6 := Lib.hid (ints_out HI2.out HO2.out s (.int .i64 (-far)))
                        have HP6 := Lib.hid (show xs = q ++ List.replicate (k + 1) far ∧ q ++ (-far) :: List.replicate k (-far) = q ++ List.replicate (k + 1) (-far) from ⟨by rw [HPX.out.1, hxf]; rfl, rfl⟩)
                        clear hxf
                        go_wp2_with fail
                        go_roundw
                        case rel => exact ⟨q, _, k + 1, by rw [HQS.out] <;> go_num, by rw [HQS.out]; omega, HP6, HI6, HG6⟩
                        case measure => simp [intOf] <;> omega
                      · have hxfb : (x == far) = false := by simpa using hxf
                        have hx1 : IntKind.i64.wrap (x + 1) = x + 1 := IntWalk.i64_in _ (by omega)
                        have hsn : ¬ (s : Int) < 0 := by omega
                        have HG6 := Lib.hid (gset HGRC.out s (x + 1))
                        rw [HQM.out] at HG6
                        have HI6 := Lib.hid (ints_out HI2.out HO2.out s (.int .i64 (x + 1)))
                        have hSK1 : ShK a m D far c0 c (q ++ x :: List.replicate k far) := by have h := HSK.out; rw [HPX.out.1] at h; exact h
                        have HSK6 := Lib.hid (hSK1.next hxf HKC.out.1 HKC.out.2 (by have h := HNOW.out; rw [HPX.out.1] at h; exact h))
                        have HRK6 := Lib.hid (show rkL far (q ++ (x + 1) :: List.replicate k (-far)) + (gk - 1) = M ∧ gk - 1 < gk by
                          have h1 := rkL_step (far := far) (by omega) q x k hxb.1
                          have h2 := HRK.out
                          rw [HPX.out.1] at h2
                          have h3 := rkL_lt (far := far) (by omega) _ HSK6.out.box
                          have h4 := HSK6.out.len
                          rw [show (q ++ (x + 1) :: List.replicate k (-far)).length = n by have := HD.out; omega, HM.out] at h3
                          omega)
                        clear hxf hSK1
                        go_wp2_with fail
                        go_roundg (gk - 1)
                        case measure => exact HRK6.out.2
                        case rel => exact ⟨_, c2, a2, k2, rfl, Lib.hid HRK6.out.1, HSK6, HI6, HO2, HG6⟩
            · have hgb : (gr == far) = false := by simpa using hgf
              have HNOW := Lib.hid (show nowS a m D far c xs from fun h => absurd (by rw [hgr]; exact h) hgf)
              have HKC := Lib.hid (show IsWv a m D c ∧ geB c c from ⟨HSK.out.kd, geB_refl _⟩)
              have HGRC := HGR2
              have HI2 := HIC2
              have HO2 := HOC
              clear hgf hgr hSe HIC HGR HGR2 HIC2
              obtain ⟨c2, hc2⟩ : ∃ z, z = c := ⟨_, rfl⟩
              obtain ⟨a2, ha2⟩ : ∃ z, z = ac := ⟨_, rfl⟩
              obtain ⟨k2, hk2⟩ : ∃ z, z = cc := ⟨_, rfl⟩
              rw [← hc2] at HNOW HI2
              rw [← ha2] at HO2 HI2 ⊢
              rw [← hk2]
              have HKC2 := Lib.hid (show IsWv a m D c2 ∧ geB c2 c by rw [hc2]; exact HKC.out)
              clear HKC hc2 ha2 hk2
              have HKC := HKC2
              clear HKC2
              go_wp2_with fail
              have HP0 := Lib.hid (show xs = xs ++ List.replicate 0 far ∧ xs = xs ++ List.replicate 0 (-far) from ⟨by simp, by simp⟩)
              have hx17 : IntKind.i64.wrap ((n : Int) - 1) = (n : Int) - 1 := IntWalk.i64_in _ (by omega)
              go_loopw [17] (fun v17 wr => ∃ (p ys : List Int) (k : Nat), v17 = .int .i64 ((p.length : Nat) - 1 : Int) ∧ p.length ≤ n ∧ Hid (xs = p ++ List.replicate k far ∧ ys = p ++ List.replicate k (-far)) ∧ Hid (IsInts wr a2 D c2) ∧ Hid (GrowAt w wr 2 (.slice (some ⟨g, 0, none⟩) n n) n (ys.map (Value.int .i64)))) (fun v17 _ => (intOf v17 + 1).toNat)
              case atStart => exact ⟨xs, xs, 0, by rw [HXL.out], by rw [HXL.out]; omega, HP0, HI2, HGRC⟩
              case round =>
                clear HP0 HGRC HI2
                obtain ⟨p, ys, k, rfl, hpn, HP, HI2, HGRC⟩ := hrel
                by_cases hp : p = []
                · subst hp
                  have HDN := Lib.hid ((show ShK a m D far c0 c (List.replicate k far) from by have h := HSK.out; rw [HP.out.1, List.nil_append] at h; exact h).done HKC.out.1 HKC.out.2 (by have h := HNOW.out; rw [HP.out.1, List.nil_append] at h; exact h))
                  rw [show (([] : List Int).length : Int) - 1 = -1 from rfl]
                  go_wp2_with fail
                  go_ret
                  exact ⟨c2, a2, k2, rfl, HI2.out, HGRC.out.2, HKC.out.1, HDN.out.1, HDN.out.2⟩
                · obtain ⟨q, x, rfl⟩ := drop_last hp
                  have hql : (q ++ [x]).length = q.length + 1 := by simp
                  rw [hql] at hpn ⊢
                  rw [show ((q.length + 1 : Nat) : Int) - 1 = (q.length : Int) by omega]
                  have hyq : ys = q ++ x :: List.replicate k (-far) := by rw [HP.out.2, List.append_assoc]; rfl
                  have hxq : xs = q ++ x :: List.replicate k far := by rw [HP.out.1, List.append_assoc]; rfl
                  have HPX := Lib.hid (And.intro hxq hyq)
                  have hxb := HSK.out.box x (by rw [hxq]; simp)
                  have hlt : q.length < n := by omega
                  have hcell : wr.cell? ⟨g, q.length, none⟩ = some (.int .i64 x) := by
                    obtain ⟨b, o, e, h⟩ := (IsInts.of_own HGRC.out.1).at hlt
                    simp only [Option.some.injEq, Addr.mk.injEq] at e
                    obtain ⟨rfl, rfl, _⟩ := e
                    rw [hyq, getD_mid] at h
                    simpa using h
                  have cf := HGRC.out.1.frozenAt q.length
                  have HQM := Lib.hid (fun v => show ys.set q.length v = q ++ v :: List.replicate k (-far) by rw [hyq, set_mid])
                  have HQL := Lib.hid (show q.length < n from hlt)
                  obtain ⟨s, hs⟩ : ∃ s, q.length = s := ⟨_, rfl⟩
                  have HQS := Lib.hid hs
                  rw [hs] at hcell cf HQM hlt hpn ⊢
                  have hs0 : (0 : Int) ≤ (s : Int) := by omega
                  have hs1 : (s : Int) < (n : Int) := by omega
                  have hsw : IntKind.i64.wrap ((s : Int) - 1) = (s : Int) - 1 := IntWalk.i64_in _ (by omega)
                  clear hp hql hyq hxq hs
                  by_cases hxf : x = far
                  · have hxfb : (x == far) = true := by simpa using hxf
                    have HG6 := Lib.hid (gset HGRC.out s (-far))
                    rw [HQM.out] at HG6
                    have HI6 := Lib.hid (ints_out HI2.out HO2.out s (.int .i64 (-far)))
                    have HP6 := Lib.hid (show xs = q ++ List.replicate (k + 1) far ∧ q ++ (-far) :: List.replicate k (-far) = q ++ List.replicate (k + 1) (-far) from ⟨by rw [HPX.out.1, hxf]; rfl, rfl⟩)
                    clear hxf
                    go_wp2_with fail
                    go_roundw
                    case rel => exact ⟨q, _, k + 1, by rw [HQS.out] <;> go_num, by rw [HQS.out]; omega, HP6, HI6, HG6⟩
                    case measure => simp [intOf] <;> omega
                  · have hxfb : (x == far) = false := by simpa using hxf
                    have hx1 : IntKind.i64.wrap (x + 1) = x + 1 := IntWalk.i64_in _ (by omega)
                    have hsn : ¬ (s : Int) < 0 := by omega
                    have HG6 := Lib.hid (gset HGRC.out s (x + 1))
                    rw [HQM.out] at HG6
                    have HI6 := Lib.hid (ints_out HI2.out HO2.out s (.int .i64 (x + 1)))
                    have hSK1 : ShK a m D far c0 c (q ++ x :: List.replicate k far) := by have h := HSK.out; rw [HPX.out.1] at h; exact h
                    have HSK6 := Lib.hid (hSK1.next hxf HKC.out.1 HKC.out.2 (by have h := HNOW.out; rw [HPX.out.1] at h; exact h))
                    have HRK6 := Lib.hid (show rkL far (q ++ (x + 1) :: List.replicate k (-far)) + (gk - 1) = M ∧ gk - 1 < gk by
                      have h1 := rkL_step (far := far) (by omega) q x k hxb.1
                      have h2 := HRK.out
                      rw [HPX.out.1] at h2
                      have h3 := rkL_lt (far := far) (by omega) _ HSK6.out.box
                      have h4 := HSK6.out.len
                      rw [show (q ++ (x + 1) :: List.replicate k (-far)).length = n by have := HD.out; omega, HM.out] at h3
                      omega)
                    clear hxf hSK1
                    go_wp2_with fail
                    go_roundg (gk - 1)
                    case measure => exact HRK6.out.2
                    case rel => exact ⟨_, c2, a2, k2, rfl, Lib.hid HRK6.out.1, HSK6, HI6, HO2, HG6⟩
end Go.Proofs.Ytpineiocjaajnaa

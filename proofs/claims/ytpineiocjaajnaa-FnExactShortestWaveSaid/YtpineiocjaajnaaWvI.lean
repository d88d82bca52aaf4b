import Derived.Test.YtpineiocjaajnaaWvP
import Derived.Test.YtpineiocjaajnaaCgV
import Derived.Test.YtpineiocjaajnaaShI
/- The program's ShortestWave. Condition: none (what is not valid is told apart). -/
namespace Go.Proofs.Ytpineiocjaajnaa
open Go.RowKit
set_option linter.unusedVariables false

def swOk (m a ad D : Int) : Bool := cgOk m a ad && inR D 2 4
/-- The first wave. -/
def wvV (m : Int) (D : Nat) : List Int := m :: List.replicate (D - 1) 0
theorem wvV_kind {a m : Int} {D : Nat} (hm : 0 < m) (hD : D = 2 ∨ D = 3 ∨ D = 4) : IsWv a m D (wvV m D) ∧ sqL (wvV m D) = m * m := by
  obtain ⟨n, rfl⟩ : ∃ n, D = n + 1 := ⟨D - 1, by omega⟩
  exact ⟨wv_first hm n, sq_first m n⟩
/-- The squares up to which all waves of a bound are seen. -/
def bbD (bd m : Int) : Int := if bd ≤ m then bd * bd else m * m
theorem bbD_le {bd m : Int} (h0 : 0 ≤ bd) (hm : 0 < m) : bbD bd m ≤ bd * bd ∧ bbD bd m ≤ m * m := by
  unfold bbD
  split
  · exact ⟨Int.le_refl _, @sq_le bd m (by omega)⟩
  · exact ⟨@sq_le m bd (by omega), Int.le_refl _⟩
theorem wave_none {a m bd : Int} {D : Nat} (hm : 0 < m) (hD : D = 2 ∨ D = 3 ∨ D = 4) (h : seenO (IsWv a m D) (bbD bd m) none []) : bd < m := by
  by_cases hb : bd < m
  · exact hb
  · obtain ⟨h1, h2⟩ := wvV_kind (a := a) hm hD
    obtain ⟨c, e, _⟩ := h m (List.replicate (D - 1) 0) h1 (by
      show sqL (wvV m D) ≤ _
      rw [h2]
      unfold bbD
      split
      · exact @sq_le m bd (by omega)
      · exact Int.le_refl _)
    cases e
theorem wave_best {a m bd : Int} {D : Nat} {c : List Int} (hm : 0 < m) (hD : D = 2 ∨ D = 3 ∨ D = 4) (h : seenO (IsWv a m D) (bbD bd m) (some c) []) (hc : IsWv a m D c) (hs : sqL c ≤ bd * bd) : BestOf (IsWv a m D) c := by
  refine best_bound hc ?_ h (by omega)
  unfold bbD
  split
  · exact hs
  · rename_i hb
    obtain ⟨h1, h2⟩ := wvV_kind (a := a) hm hD
    obtain ⟨c', e, g⟩ := h m (List.replicate (D - 1) 0) h1 (by
      show sqL (wvV m D) ≤ _
      rw [h2]
      unfold bbD
      rw [if_neg hb]; exact Int.le_refl _)
    injection e with e
    subst e
    have := geB_sq g
    rw [← h2]
    exact this
theorem run_neqL {P : Program} (w : World) (t e : TypeId) (a : Option Addr) (n c : Nat) (h : P.underlying t = some (.slice e)) :
    (Go.binOp .neq t (.slice a n c) (.slice none 0 0)).run P w = .ok (.bool (!a.isNone)) w := by
  simp only [Go.binOp]
  simp [Op.equal, Op.maxDepth, Lib.run_equalIn_slice_nil w 9999 t e a n c 0 0 h]
theorem waves_all (B bx D : Nat) (a m ad bd BB : Int) (hm : 2 ≤ m ∧ m ≤ 100000) (ha : 0 ≤ a ∧ a < m) (hD : 2 ≤ D) (hD4 : D ≤ 4) (hbd : 0 ≤ bd ∧ bd ≤ 200000) (hBB : BB ≤ bd * bd ∧ BB ≤ m * m) : ∀ r, WavC Try.prog 34 B bx D a m ad bd BB r
  | 0 => waves_zero B bx D a m ad bd BB hm hD hD4 hbd hBB
  | r + 1 => waves_succ B bx D a m ad bd BB r hm ha hD hD4 hbd hBB (waves_all B bx D a m ad bd BB hm ha hD hD4 hbd hBB r)
set_option maxRecDepth 100000 in
set_option maxHeartbeats 1600000 in
theorem shortestWave_any (m a ad d : Int) (w : World) : Calls Try.prog 14 #[.agg #[.int .i64 m, .int .i64 a, .int .i64 ad], .int .i64 d] w (RetSp w (IsWv a m d.toNat) (swOk m a ad d) d.toNat) := by
  have hA := (Below.refl _ w).alloc (Nat.le_refl _) (.cells #[.int .i64 m, .int .i64 a, .int .i64 ad] 27)
  have H0 := Lib.hid (And.intro (Box3.new w 27 m a ad) hA)
  clear hA
  cases hv : cgOk m a ad with
  | false =>
    have HV := Lib.hid (And.intro hv (show swOk m a ad d = false by unfold swOk; rw [hv]; rfl))
    clear hv
    rw [HV.out.2]
    go_enter Try.func14, Try.ntmps14
    obtain ⟨y0, y1, y2⟩ := H0.out.1
    go_wp2_with fail
    refine (validCg_any _ _ _ _).mono ?_
    rintro e w1 ⟨rfl, hb⟩
    rw [HV.out.1]
    have HB := Lib.hid (bthen H0.out.2 hb)
    clear hb
    go_wp2_with fail
    go_ret3
    exact retSp_no HB.out
  | true =>
    cases hd : inR d 2 4 with
    | false =>
      have HV := Lib.hid (And.intro hv (And.intro hd (show swOk m a ad d = false by unfold swOk; rw [hv, hd]; rfl)))
      clear hv hd
      rw [HV.out.2.2]
      go_enter Try.func14, Try.ntmps14
      obtain ⟨y0, y1, y2⟩ := H0.out.1
      go_wp2_with fail
      refine (validCg_any _ _ _ _).mono ?_
      rintro e w1 ⟨rfl, hb⟩
      rw [HV.out.1]
      have HB := Lib.hid (bthen H0.out.2 hb)
      clear hb
      go_wp2_with fail
      refine (inRangeV _ _ _ _).mono ?_
      rintro e w' ⟨rfl, rfl⟩
      rw [HV.out.2.1]
      go_wp2_with fail
      go_ret3
      exact retSp_no HB.out
    | true =>
      have HV := Lib.hid (And.intro hv (And.intro hd (show swOk m a ad d = true by unfold swOk; rw [hv, hd]; rfl)))
      obtain ⟨⟨hm2, hm3⟩, ⟨ha0, ha1⟩, _⟩ := cg_bd hv
      simp only [inR, Bool.and_eq_true, decide_eq_true_eq] at hd
      obtain ⟨D, rfl⟩ := Int.eq_ofNat_of_zero_le (show 0 ≤ d by omega)
      have hD : D = 2 ∨ D = 3 ∨ D = 4 := by omega
      have hD2 : 2 ≤ D := by omega
      have hD4 : D ≤ 4 := by omega
      have hm0 : 0 < m := by omega
      rw [HV.out.2.2]
      rw [show ((D : Nat) : Int).toNat = D from rfl]
      clear hv hd
      go_enter Try.func14, Try.ntmps14
      obtain ⟨y0, y1, y2⟩ := H0.out.1
      go_wp2_with fail
      refine (validCg_any _ _ _ _).mono ?_
      rintro e w1 ⟨rfl, hb⟩
      rw [HV.out.1]
      have HB3 := Lib.hid (show Box3 w1 w.heap.size m a ad from H0.out.1.gx (b := w.heap.size + 1) (Gx.below hb) (by omega))
      have HBW := Lib.hid (bthen H0.out.2 hb)
      clear hb H0 y0 y1 y2
      obtain ⟨bb, hbb⟩ : ∃ b, w.heap.size = b := ⟨_, rfl⟩
      rw [hbb] at HB3 ⊢
      have HBB := Lib.hid hbb
      clear hbb
      go_wp2_with fail
      refine (inRangeV _ _ _ _).mono ?_
      rintro e w' ⟨rfl, rfl⟩
      rw [HV.out.2.1]
      go_wp2_with fail
      go_loopw [7] (fun v7 wr => ∃ (bd : Int), v7 = .int .i64 bd ∧ 1 ≤ bd ∧ bd ≤ 200000 ∧ Hid (Below w'.heap.size w' wr)) (fun v7 _ => (300000 - intOf v7).toNat)
      case atStart => exact ⟨1, rfl, by omega, by omega, Lib.hid (Below.refl _ _)⟩
      case round =>
        obtain ⟨bd, rfl, hb1, hb2, HBR⟩ := hrel
        have hA2 := (Below.refl _ wr).alloc (Nat.le_refl _) (.cells #[.slice none 0 0, .int .i64 0] 58)
        have HN2 := Lib.hid (B2.new wr 58 (.slice none 0 0) (.int .i64 0))
        have hlt2 : bb < w'.heap.size := World.block_lt_of_cell? w' _ HB3.out.1
        have HB4 := Lib.hid (show Box3 (wr.alloc (.cells #[.slice none 0 0, .int .i64 0] 58)) bb m a ad from HB3.out.gx (b := w'.heap.size + 1) (Gx.below (bthen HBR.out hA2)) (by omega))
        have HBA := Lib.hid (show Below w.heap.size w (wr.alloc (.cells #[.slice none 0 0, .int .i64 0] 58)) from bthen HBW.out (bthen HBR.out hA2))
        have HBR2 := Lib.hid (show Below w'.heap.size w' (wr.alloc (.cells #[.slice none 0 0, .int .i64 0] 58)) from bthen HBR.out hA2)
        have HBX := Lib.hid (show bb ≠ wr.heap.size ∧ w.heap.size ≤ wr.heap.size ∧ w'.heap.size ≤ wr.heap.size from ⟨by have := HBR.out.size; omega, by have := HBR.out.size; have := HBW.out.size; omega, HBR.out.size⟩)
        obtain ⟨y0, y1, y2⟩ := HB4.out
        have hbd2 : IntKind.i64.wrap (bd * 2) = bd * 2 := IntWalk.i64_in _ (by omega)
        clear hA2 hlt2
        go_upto_region 6 with fail
        obtain ⟨bx, hbx⟩ : ∃ b, wr.heap.size = b := ⟨_, rfl⟩
        obtain ⟨W2, hW2⟩ : ∃ x, wr.alloc (.cells #[.slice none 0 0, .int .i64 0] 58) = x := ⟨_, rfl⟩
        rw [hW2] at HN2 HB4 HBA HBR2 y0 y1 y2 ⊢
        rw [hbx] at HN2 HBX ⊢
        clear hW2 hbx
        have HWC := Lib.hid (waves_all w.heap.size bx D a m ad bd (bbD bd m) ⟨hm2, hm3⟩ ⟨ha0, by omega⟩ hD2 hD4 ⟨by omega, hb2⟩ (bbD_le (by omega) hm0) (D - 1) [] none none 0 0 W2 HBA.out.size (by omega) HN2.out (fun c e => by cases e) (fun c e => by cases e) ⟨rfl, Or.inl ⟨rfl, rfl, rfl⟩⟩ (sq_nn bd))
        rw [show sqL [] = 0 from rfl, show wS a m 0 [] % m = 0 from by simp [wS], show pwM a m (0 + 1) = a from by show (1 * a) % m = a; rw [Int.one_mul]; exact Int.emod_eq_of_lt ha0 (by omega)] at HWC
        go_wp2_with fail
        refine HWC.out.mono ?_
        rintro e w7 ⟨rfl, o2, hkn, hseen⟩
        cases o2 with
        | none =>
          have hlt := wave_none hm0 hD hseen
          obtain ⟨z0, z1, z2, z3, z4⟩ := (show B2 w7 bx (.slice none 0 0) (.int .i64 0) from hkn.sl)
          have HBR3 := Lib.hid (show Below w'.heap.size w' w7 from HBR2.out.trans (hkn.gx.out HBR2.out.size HBX.out.2.2))
          have heq := fun w => run_neqL (P := Try.prog) w 24 2 none 0 0 Try.underlying24
          clear hkn hseen HWC y0 y1 y2
          go_wp2_with fail
          go_roundw
          case rel => exact ⟨bd * 2, rfl, by omega, by omega, HBR3⟩
          case measure => simp [intOf] <;> omega
        | some c =>
          have HBEST := Lib.hid (wave_best hm0 hD hseen (hkn.ok c rfl) (hkn.sq c rfl))
          have HCL := Lib.hid (IsWv.hl c (hkn.ok c rfl))
          obtain ⟨g9, cap9, hb9, hown9⟩ := hkn.sl
          have HGR := Lib.hid (show GrowAt w w7 2 (.slice (some ⟨g9, 0, none⟩) D cap9) D (c.map (Value.int .i64)) from ⟨hown9, HBA.out.trans (hkn.gx.out HBA.out.size HBX.out.2.1)⟩)
          obtain ⟨sc, hsc⟩ : ∃ q, sqL c = q := ⟨_, rfl⟩
          rw [hsc] at hb9
          have HSC := Lib.hid hsc
          obtain ⟨z0, z1, z2, z3, z4⟩ := hb9
          have heq := fun w => run_neqL (P := Try.prog) w 24 2 (some ⟨g9, 0, none⟩) D cap9 Try.underlying24
          clear hkn hseen HWC y0 y1 y2 hown9 hsc
          go_wp2_with fail
          go_quiet (fail)
          go_wp2
          go_ret3
          rw [← HSC.out]
          exact retSp_yes HBEST.out HCL.out (HGR.out.ret (drewN_below _ _))
end Go.Proofs.Ytpineiocjaajnaa
